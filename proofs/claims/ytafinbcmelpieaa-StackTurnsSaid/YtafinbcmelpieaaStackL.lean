/- What the statements of layer 1 share: known. -/
import Derived.Test.YtafinbcmelpieaaPileInt
import Derived.Test.YtafinbcmelpieaaPileStr
namespace Go.Proofs.Ytafinbcmelpieaa
open Go.RowKit

theorem knownStack_any (w : World) :
    Calls Try.prog 31 #[] w fun e w' => e = .returned (.bool true) ∧ Below w.heap.size w w' := by
  go_enter Try.func31, Try.ntmps31
  go_wp2_with fail
  refine (newB_str w.heap.size w (Nat.le_refl _)).mono ?_
  rintro e w1 ⟨rfl, h1, b1⟩
  go_wp2_with fail
  refine (pushB_str _ w1 _ _ ⟨#[97]⟩ h1 (by simp)).mono ?_
  rintro e w2 ⟨rfl, h2, b2⟩
  go_wp2_with fail
  refine (pushB_str _ w2 _ _ ⟨#[98]⟩ h2 (by simp)).mono ?_
  rintro e w3 ⟨rfl, h3, b3⟩
  go_wp2_with fail
  refine (putB_str _ w3 _ _ 1 ⟨#[99]⟩ h3 (by simp) (by simp)).mono ?_
  rintro e w4 ⟨rfl, h4, b4⟩
  go_wp2_with fail
  have h4' : PX_str w.heap.size w4 w.heap.size [⟨#[97]⟩, ⟨#[99]⟩, ⟨#[98]⟩] := h4
  clear h1 h2 h3 h4
  refine (allB_str _ w4 _ _ h4' (by simp)).mono ?_
  rintro e w5 ⟨A, c, rfl, hc, hr, b5, _, _⟩
  have hr' := hr.keep (w' := w5.alloc (.cells #[.string ⟨#[97]⟩, .string ⟨#[99]⟩, .string ⟨#[98]⟩] 9)) ((Below.refl _ _).alloc (Nat.le_refl _) _)
  have hb1 : Blk (w5.alloc (.cells #[.string ⟨#[97]⟩, .string ⟨#[99]⟩, .string ⟨#[98]⟩] 9)) w5.heap.size 9 #[.string ⟨#[97]⟩, .string ⟨#[99]⟩, .string ⟨#[98]⟩] (0, 0) := Blk.new w5 _ _ _
  have hr2 : Rd (w5.alloc (.cells #[.string ⟨#[97]⟩, .string ⟨#[99]⟩, .string ⟨#[98]⟩] 9)) (some ⟨w5.heap.size, 0, none⟩) 3 1 (([⟨#[97]⟩, ⟨#[99]⟩, ⟨#[98]⟩] : List ByteArray).flatMap enc_str) :=
    ⟨rfl, row_one encOk_str _, fun _ => ⟨_, rfl, fun j u hu => by rw [add0, hb1.cell j, List.getElem?_toArray]; exact hu⟩⟩
  have h5 := (h4'.keep b5).keep (w1 := w5.alloc (.cells #[.string ⟨#[97]⟩, .string ⟨#[99]⟩, .string ⟨#[98]⟩] 9)) ((Below.refl _ _).alloc (Nat.le_refl _) _)
  have HS := Lib.hid (same_str _ A (some ⟨w5.heap.size, 0, none⟩) c 3 [⟨#[97]⟩, ⟨#[99]⟩, ⟨#[98]⟩] [⟨#[97]⟩, ⟨#[99]⟩, ⟨#[98]⟩] hr' hr2 (by simp) )
  have H5 := Lib.hid h5
  clear hr hr' hr2 hb1 h5 hc
  have b5' : Below w.heap.size w (w5.alloc (.cells #[.string ⟨#[97]⟩, .string ⟨#[99]⟩, .string ⟨#[98]⟩] 9)) :=
    (below_then (((b1.trans b2).trans b3).trans b4) (Nat.le_trans b1.size (Nat.le_trans b2.size (Nat.le_trans b3.size b4.size))) b5).alloc (Nat.le_trans b1.size (Nat.le_trans b2.size (Nat.le_trans b3.size (Nat.le_trans b4.size b5.size)))) _
  go_wp2_with fail
  refine HS.out.mono ?_
  rintro e w6 ⟨rfl, b6⟩
  go_wp2_with fail
  refine (lenB_str _ w6 _ _ (H5.out.keep b6)).mono ?_
  rintro e w7 ⟨rfl, rfl⟩
  go_wp2_with fail
  go_ret
  exact ⟨rfl, below_then b5' b5'.size b6⟩
end Go.Proofs.Ytafinbcmelpieaa
