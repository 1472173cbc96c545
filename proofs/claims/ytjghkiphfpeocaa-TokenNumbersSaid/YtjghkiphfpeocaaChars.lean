/- Small words for texts, strings.Clone and chars.Letter. -/
import Derived.Test.YtjghkiphfpeocaaPl
import Derived.Test.YtjghkiphfpeocaaScanP0
namespace Go.Proofs.Ytjghkiphfpeocaa
open Go.RowKit

theorem S_piece (s : ByteArray) (a b : Nat) : s.extract a b = S (pieceL (B s) a b) := by
  rw [← S_B (s.extract a b), B_piece]; rfl
theorem S_drop (s : ByteArray) (a : Nat) : s.extract a s.size = S ((B s).drop a) := by
  rw [← S_B (s.extract a s.size), B_drop]
theorem toList_S (l : List UInt8) : (S l).toList = l := by rw [toList_B]; rfl
theorem clone_any (s : ByteArray) (w : World) (hs : s.size ≤ 281474976710656) :
    Calls Try.prog 60 #[.string s] w fun e w' => e = .returned (.string s) ∧ Below w.heap.size w w' := by
  have H := Lib.hid (fun w => Try.stringslite_Clone s w hs)
  clear hs
  go_enter Try.func60, Try.ntmps60
  go_wp2_with fail
  refine (H.out _).mono ?_
  rintro e w' ⟨rfl, hb⟩
  go_wp2_with fail
  go_ret
  exact ⟨rfl, hb⟩

theorem letter_rune (c : UInt8) (w : World) :
    Calls Try.prog 38 #[.int .i32 (wrap32 (c.toNat : Int))] w fun e w' => e = .returned (.bool (letterB c)) ∧ w = w' := by
  rw [wrap_byte]
  have hl : Hid (letterB c = ((decide (97 ≤ c.toNat) && decide (c.toNat ≤ 122)) || (decide (65 ≤ c.toNat) && decide (c.toNat ≤ 90)))) := rfl
  generalize c.toNat = n at *
  go_enter Try.func38, Try.ntmps38
  go_wp2_with fail
  all_goals
    go_ret
    refine ⟨ret_bool ?_, rfl⟩
    rw [hl.out, Bool.eq_iff_iff]
    simp only [Bool.or_eq_true, Bool.and_eq_true, decide_eq_true_eq, Bool.false_eq_true, true_iff, false_iff]
    omega

end Go.Proofs.Ytjghkiphfpeocaa
