/- arbourlaw8.known. -/
import Derived.Test.YtjghkiphfpeocaaTokF
import Derived.Test.YtjghkiphfpeocaaRight
namespace Go.Proofs.Ytjghkiphfpeocaa
open Go.RowKit

theorem rdA_one (w : World) (x : At) : RdA (w.alloc (.cells #[.string x.name, .string x.val] 42)) (some ⟨w.heap.size, 0, none⟩) 1 [x] :=
  ⟨rfl, by
    have h := rd_one_at (x := x) (Blk.new w 42 (enc_at x).toArray (0, 0))
    rw [show [x].flatMap enc_at = enc_at x by simp]; exact h⟩
set_option maxHeartbeats 4000000 in
theorem right_cap (w : World) (s : ByteArray) (A : Option Addr) (n c : Nat) (sf : Bool) (hs : s.size ≤ 65536) (hf : ((B s)[0]?).any letterB = true) (hc : ∀ c ∈ B s, spaceB c = false ∧ c ≠ 47 ∧ c ≠ 62) (hlw : ((S (lowL (B s))).toList == s.toList) = false) :
    Calls Try.prog 23 #[.agg #[.int .i64 2, .string s, .slice A n c, .bool sf, .string ⟨#[]⟩]] w fun e w' => e = .returned (.bool false) ∧ Below w.heap.size w w' := by
  have HB0 := Lib.hid (below_tokR w #[.int .i64 2, .string s, .slice A n c, .bool sf, .string ⟨#[]⟩])
  have HC := Lib.hid (Blk.new w 34 #[.int .i64 2, .string s, .slice A n c, .bool sf, .string ⟨#[]⟩] (0, 0))
  have HP := Lib.hid (fun w => plain_two w (.int .i64 2) (.string s) (.slice A n c) (.bool sf))
  have HN := Lib.hid (fun w => tagName_cap s w hs hf hc hlw)
  have k0 := HC.out.cell 0
  have k1 := HC.out.cell 1
  have k2 := HC.out.cell 2
  have k3 := HC.out.cell 3
  have k4 := HC.out.cell 4
  clear hf hc hlw
  go_enter Try.func23, Try.ntmps23
  go_wp2_with fail
  refine (HP.out _).mono ?_
  rintro e w1 ⟨rfl, b1⟩
  have HC1 := Lib.hid (HC.out.keep b1)
  have HB1 := Lib.hid (below_then HB0.out HB0.out.size b1)
  have m1 := HC1.out.cell 1
  clear b1 k0 k1 k2 k3 k4
  go_wp2_with fail
  refine (HN.out _).mono ?_
  rintro e w2 ⟨rfl, b2⟩
  have HB2 := Lib.hid (below_then HB1.out HB1.out.size b2)
  clear b2
  go_wp2_with fail
  go_ret
  exact ⟨rfl, HB2.out⟩
def knownAt : At := ⟨⟨#[97]⟩, ⟨#[49]⟩⟩
theorem known_text : textT ⟨2, ⟨#[112]⟩, [knownAt], false, ⟨#[]⟩⟩ = ⟨#[60, 112, 32, 97, 61, 49]⟩ := by decide +kernel
set_option maxHeartbeats 4000000 in
theorem tok_known (w : World) :
    Calls Try.prog 18 #[] w fun e w' => e = .returned (.bool true) ∧ Below w.heap.size w w' := by
  have hrd := rdA_one w knownAt
  have hba : Below w.heap.size w (w.alloc (.cells #[.string ⟨#[97]⟩, .string ⟨#[49]⟩] 42)) := (Below.refl _ _).alloc (Nat.le_refl _) _
  have hrd : RdA (w.alloc (.cells #[.string ⟨#[97]⟩, .string ⟨#[49]⟩] 42)) (some ⟨w.heap.size, 0, none⟩) 1 [knownAt] := hrd
  obtain ⟨w0, hw0⟩ : ∃ w0, w0 = w.alloc (.cells #[.string ⟨#[97]⟩, .string ⟨#[49]⟩] 42) := ⟨_, rfl⟩
  have HW0 := Lib.hid hw0.symm
  rw [← hw0] at hrd hba
  have hb1 := hba.alloc hba.size (.cells #[.int .i64 2, .string ⟨#[112]⟩, .slice (some ⟨w.heap.size, 0, none⟩) 1 1, .bool false, .string ⟨#[]⟩] 34)
  have hT := Blk.new w0 34 #[.int .i64 2, .string ⟨#[112]⟩, .slice (some ⟨w.heap.size, 0, none⟩) 1 1, .bool false, .string ⟨#[]⟩] (0, 0)
  have hrd1 := hrd.keep (below_tokR w0 #[.int .i64 2, .string ⟨#[112]⟩, .slice (some ⟨w.heap.size, 0, none⟩) 1 1, .bool false, .string ⟨#[]⟩])
  obtain ⟨w1, hw1⟩ : ∃ w1, w1 = w0.alloc (.cells #[.int .i64 2, .string ⟨#[112]⟩, .slice (some ⟨w.heap.size, 0, none⟩) 1 1, .bool false, .string ⟨#[]⟩] 34) := ⟨_, rfl⟩
  have HW1 := Lib.hid hw1.symm
  rw [← hw1] at hb1 hT hrd1
  have HT := Lib.hid hT
  have HB1 := Lib.hid hb1
  have HTX := Lib.hid (text_any ⟨2, ⟨#[112]⟩, [knownAt], false, ⟨#[]⟩⟩ (some ⟨w.heap.size, 0, none⟩) 1 w1 (by unfold Tk.fits; decide) (by decide) hrd1)
  rw [known_text] at HTX
  have HRT := Lib.hid (fun W (h : Below w1.heap.size w1 W) => right_two W ⟨#[112]⟩ (some ⟨w.heap.size, 0, none⟩) 1 1 [knownAt] false (by decide) (by unfold NameOk okB; decide) (hrd1.keep h) (by decide) (by unfold Listed NoDup; decide))
  have HCP := Lib.hid (fun W => right_cap W ⟨#[80]⟩ none 0 0 false (by decide) (by decide) (by decide) (by decide +kernel))
  have t1 : ((⟨#[60, 112, 32, 97, 61, 49]⟩ : ByteArray).toList == [60, 112, 32, 97, 61, 49]) = true := by decide +kernel
  obtain ⟨k0, k1, k2, k3, k4, _⟩ := cells_tokG HT.out
  rw [← HW1.out, ← HW0.out] at k0 k1 k2 k3 k4
  rw [show (w.alloc (.cells #[.string ⟨#[97]⟩, .string ⟨#[49]⟩] 42)).heap.size = w.heap.size + 1 by simp] at k0 k1 k2 k3 k4
  have HS0 := Lib.hid (show w0.heap.size = w.heap.size + 1 by rw [hw0]; simp)
  clear hw0 hw1 hrd hba hb1 hT hrd1
  go_enter Try.func18, Try.ntmps18
  go_wp2_with fail
  rw [HW0.out, HW1.out]
  clear k0 k1 k2 k3 k4
  refine HTX.out.mono ?_
  rintro e w2 ⟨rfl, b2⟩
  obtain ⟨k0, k1, k2, k3, k4, _⟩ := cells_tokG (HT.out.keep b2)
  rw [HS0.out] at k0 k1 k2 k3 k4
  have HB2 := Lib.hid (below_then HB1.out HB1.out.size b2)
  have HBB := Lib.hid b2
  clear b2
  go_wp2_with fail
  refine (HRT.out _ HBB.out).mono ?_
  rintro e w3 ⟨rfl, b3⟩
  have HB3 := Lib.hid (below_then HB2.out HB2.out.size b3)
  clear b3 k0 k1 k2 k3 k4
  go_wp2_with fail
  refine (HCP.out _).mono ?_
  rintro e w4 ⟨rfl, b4⟩
  have HB4 := Lib.hid (below_then HB3.out HB3.out.size b4)
  clear b4
  go_wp2_with fail
  go_ret
  exact ⟨rfl, HB4.out⟩
end Go.Proofs.Ytjghkiphfpeocaa
