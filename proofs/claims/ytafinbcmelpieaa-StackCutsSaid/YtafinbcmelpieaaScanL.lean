/- The statements of chapter 9: each walked, over what the functions answer. -/
import Derived.Test.YtafinbcmelpieaaScanR
import Derived.Test.YtafinbcmelpieaaAfter
namespace Go.Proofs.Ytafinbcmelpieaa
open Go.RowKit

/-! ### the functions at a place that is one -/
section
variable (s sub : ByteArray) (k : Nat) (w : World) (hk : k ≤ s.size)
include hk
theorem starts_at (hs : s.size ≤ 9223372036854775807) : Calls Try.prog 15 #[.string s, .int .i64 (k : Int), .string sub] w fun e w' => e = .returned (.bool (startsL (B s) (B sub) k)) ∧ w = w' := by
  have h := starts_any s sub k w hs
  rwa [clampN_nat k s.size hk] at h
theorem fold_at (hs : s.size ≤ 140737488355328) (ht : sub.size ≤ 140737488355328) : Calls Try.prog 16 #[.string s, .int .i64 (k : Int), .string sub] w fun e w' => e = .returned (.bool (foldL (B s) (B sub) k)) ∧ Below w.heap.size w w' := by
  have h := fold_any s sub k w hs ht
  rwa [clampN_nat k s.size hk] at h
theorem find_at (hs : s.size < 4294967281) (hw : Lax w) : Calls Try.prog 20 #[.string s, .int .i64 (k : Int), .string sub] w fun e w' => e = .returned (.int .i64 (findL (B s) (B sub) k : Nat)) ∧ w = w' := by
  have h := find_any s k sub w hs hw
  rwa [clampN_nat k s.size hk] at h
theorem until_at (hs : s.size ≤ 9223372036854775807) : Calls Try.prog 21 #[.string s, .int .i64 (k : Int), .string sub] w fun e w' => e = .returned (.int .i64 (untilL (B s) (B sub) k : Nat)) ∧ w = w' := by
  have h := until_any s k sub w hs
  rwa [clampN_nat k s.size hk] at h
theorem skip_at (hs : s.size ≤ 9223372036854775807) : Calls Try.prog 19 #[.string s, .int .i64 (k : Int)] w fun e w' => e = .returned (.int .i64 (skipL (B s) k : Nat)) ∧ w = w' := by
  have h := skip_any s k w hs
  rwa [clampN_nat k s.size hk] at h
theorem name_at (hs : s.size ≤ 9223372036854775807) : Calls Try.prog 18 #[.string s, .int .i64 (k : Int)] w fun e w' => e = .returned (.int .i64 (nameL (B s) k : Nat)) ∧ w = w' := by
  have h := name_any s k w hs
  rwa [clampN_nat k s.size hk] at h
end

theorem known_any (w : World) (hL : Lax w) : Calls Try.prog 17 #[] w fun e w' => e = .returned (.bool true) ∧ Below w.heap.size w w' := by
  have h1 := fun w => (fold_any ⟨#[60, 33, 68, 111, 99, 84, 121, 112, 101]⟩ ⟨#[100, 111, 99, 116, 121, 112, 101]⟩ 2 w (by decide) (by decide)).mono fun e w' (h : _ ∧ _) => (⟨h.1.trans (ret_bool (b := true) (by decide +kernel)), h.2⟩ : _ ∧ _)
  have h2 := fun w => (skip_any ⟨#[32, 32, 32]⟩ 0 w (by decide)).mono fun e w' (h : _ ∧ _) => (⟨h.1.trans (ret_int (b := 3) (by decide +kernel)), h.2⟩ : _ ∧ _)
  have h3 := fun w hL => (find_any ⟨#[97, 98, 99]⟩ 0 ⟨#[120]⟩ w (by decide) hL).mono fun e w' (h : _ ∧ _) => (⟨h.1.trans (ret_int (b := 3) (by decide +kernel)), h.2⟩ : _ ∧ _)
  have H1 := Lib.hid h1
  have H2 := Lib.hid h2
  have H3 := Lib.hid h3
  clear h1 h2 h3
  go_enter Try.func17, Try.ntmps17
  go_wp2_with fail
  refine (H1.out _).mono ?_
  rintro e w1 ⟨rfl, hb⟩
  go_wp2_with fail
  refine (H2.out _).mono ?_
  rintro e w2 ⟨rfl, rfl⟩
  go_wp2_with fail
  refine (H3.out _ (hL.below hb)).mono ?_
  rintro e w3 ⟨rfl, rfl⟩
  go_wp2_with fail
  go_ret
  exact ⟨rfl, hb⟩

/-- Both engines' words at once: the program's functions and the references' tell the same. -/
theorem lsame_any (s sub : ByteArray) (at_ : Int) (w : World) (hL : Lax w) (hs : s.size ≤ 65536) (ht : sub.size ≤ 65536) :
    Calls Try.prog 22 #[.string s, .int .i64 at_, .string sub] w fun e w' => e = .returned (.bool true) ∧ Below w.heap.size w w' := by
  go_enter Try.func22, Try.ntmps22
  go_wp2_with fail
  refine (starts_any _ _ _ _ (by omega)).mono ?_
  rintro e w1 ⟨rfl, rfl⟩
  go_wp2_with fail
  refine (rstarts_any _ _ _ _ (by omega) (by omega)).mono ?_
  rintro e w1 ⟨rfl, rfl⟩
  go_wp2_with fail
  refine (fold_any _ _ _ _ (by omega) (by omega)).mono ?_
  rintro e w2 ⟨rfl, hb2⟩
  go_wp2_with fail
  refine (rfold_any _ _ _ _ (by omega) (by omega)).mono ?_
  rintro e w3 ⟨rfl, hb3⟩
  have hL3 := (hL.below hb2).below hb3
  go_wp2_with fail
  refine (find_any _ _ _ _ (by omega) hL3).mono ?_
  rintro e w1 ⟨rfl, rfl⟩
  go_wp2_with fail
  refine (rfind_any _ _ _ _ (by omega) (by omega)).mono ?_
  rintro e w1 ⟨rfl, rfl⟩
  go_wp2_with fail
  refine (until_any _ _ _ _ (by omega)).mono ?_
  rintro e w1 ⟨rfl, rfl⟩
  go_wp2_with fail
  refine (runtil_any _ _ _ _ (by omega) (by omega)).mono ?_
  rintro e w1 ⟨rfl, rfl⟩
  go_wp2_with fail
  refine (skip_any _ _ _ (by omega)).mono ?_
  rintro e w1 ⟨rfl, rfl⟩
  go_wp2_with fail
  refine (rskip_any _ _ _ (by omega)).mono ?_
  rintro e w1 ⟨rfl, rfl⟩
  go_wp2_with fail
  refine (name_any _ _ _ (by omega)).mono ?_
  rintro e w1 ⟨rfl, rfl⟩
  go_wp2_with fail
  refine (rname_any _ _ _ (by omega)).mono ?_
  rintro e w1 ⟨rfl, rfl⟩
  go_wp2_with fail
  go_ret
  exact ⟨rfl, below_both hb2 hb3⟩

/-- The texts and the place with which a law goes on. -/
theorem nat_of {x lo hi : Int} (h0 : 0 ≤ lo) (h : lo ≤ x ∧ x ≤ hi) : ∃ k : Nat, x = k ∧ lo ≤ (k : Int) ∧ (k : Int) ≤ hi := ⟨x.toNat, by omega, by omega, by omega⟩

end Go.Proofs.Ytafinbcmelpieaa
