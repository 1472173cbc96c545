/- References: digits, numbers, the two tables. -/
import Derived.Test.YtdjeajbinpgpiaaChars
import Derived.Test.YtdjeajbinpgpiaaKeepH
import Derived.Test.YtdjeajbinpgpiaaPl
import Derived.Test.YtdjeajbinpgpiaaBase
import Derived.Deep.QuietTactic
import Derived.BigQuiet
namespace Go.Proofs.Ytdjeajbinpgpiaa
open Go.RowKit

theorem ret_ib {a c : Int} {b d : Bool} (h1 : a = c) (h2 : b = d) : Ending.returned (.tuple #[.int .i64 a, .bool b]) = .returned (.tuple #[.int .i64 c, .bool d]) := by rw [h1, h2]
theorem ret_si {a c : ByteArray} {b d : Int} (h1 : a = c) (h2 : b = d) : Ending.returned (.tuple #[.string a, .int .i64 b]) = .returned (.tuple #[.string c, .int .i64 d]) := by rw [h1, h2]
theorem ret_sib {a c : ByteArray} {b d : Int} {x y : Bool} (h1 : a = c) (h2 : b = d) (h3 : x = y) : Ending.returned (.tuple #[.string a, .int .i64 b, .bool x]) = .returned (.tuple #[.string c, .int .i64 d, .bool y]) := by rw [h1, h2, h3]
theorem digit_int (n : Nat) (w : World) :
    Calls Try.prog 64 #[.int .i32 (n : Int)] w fun e w' => e = .returned (.bool (decide (48 ≤ n) && decide (n ≤ 57))) ∧ w = w' := by
  go_enter Try.func64, Try.ntmps64
  go_wp2_with fail
  all_goals
    go_ret
    refine ⟨ret_bool ?_, rfl⟩
    rw [Bool.eq_iff_iff]
    simp only [Bool.and_eq_true, decide_eq_true_eq, Bool.false_eq_true, false_iff]
    omega
theorem digit_rune (c : UInt8) (w : World) :
    Calls Try.prog 64 #[.int .i32 (wrap32 (c.toNat : Int))] w fun e w' => e = .returned (.bool (digitB c)) ∧ w = w' := by
  rw [wrap_byte]
  exact digit_int c.toNat w
set_option maxHeartbeats 1000000 in
theorem hex_rune (c : UInt8) (w : World) :
    Calls Try.prog 81 #[.int .i32 (wrap32 (c.toNat : Int))] w fun e w' => e = .returned (.tuple #[.int .i64 (hexV c : Nat), .bool (hexB c)]) ∧ w = w' := by
  rw [wrap_byte]
  have hl : Hid (hexB c = ((decide (48 ≤ c.toNat) && decide (c.toNat ≤ 57)) || (decide (97 ≤ c.toNat) && decide (c.toNat ≤ 102)) || (decide (65 ≤ c.toNat) && decide (c.toNat ≤ 70)))) := rfl
  have hv : Hid (hexV c = if 48 ≤ c.toNat ∧ c.toNat ≤ 57 then c.toNat - 48 else if 97 ≤ c.toNat ∧ c.toNat ≤ 102 then c.toNat - 87 else if 65 ≤ c.toNat ∧ c.toNat ≤ 70 then c.toNat - 55 else 0) := rfl
  have hlt : c.toNat < 256 := c.toNat_lt
  generalize hexB c = hb at *
  generalize hexV c = hx at *
  generalize c.toNat = n at *
  have HD := Lib.hid (digit_int n w)
  by_cases h1 : 48 ≤ n ∧ n ≤ 57
  · obtain ⟨h1a, h1b⟩ := h1
    rw [show (decide (48 ≤ n) && decide (n ≤ 57)) = true by simp; omega] at HD
    go_enter Try.func81, Try.ntmps81
    go_wp2_with fail
    refine HD.out.mono ?_
    rintro e w' ⟨rfl, rfl⟩
    go_wp2_with fail
    go_ret2
    refine ⟨ret_ib ?_ ?_, rfl⟩
    · rw [hv.out, if_pos ⟨h1a, h1b⟩]; omega
    · rw [hl.out, show (decide (48 ≤ n) && decide (n ≤ 57)) = true by simp; omega]; rfl
  · rw [show (decide (48 ≤ n) && decide (n ≤ 57)) = false by simp; omega] at HD
    have hv2 : Hid (hx = if 97 ≤ n ∧ n ≤ 102 then n - 87 else if 65 ≤ n ∧ n ≤ 70 then n - 55 else 0) := by show _ = _; rw [hv.out, if_neg h1]
    have hl2 : Hid (hb = ((decide (97 ≤ n) && decide (n ≤ 102)) || (decide (65 ≤ n) && decide (n ≤ 70)))) := by show _ = _; rw [hl.out, show (decide (48 ≤ n) && decide (n ≤ 57)) = false by simp; omega]; rfl
    clear hv hl h1
    go_enter Try.func81, Try.ntmps81
    go_wp2_with fail
    refine HD.out.mono ?_
    rintro e w' ⟨rfl, rfl⟩
    go_wp2_with fail
    all_goals
      go_ret2
      refine ⟨ret_ib ?_ ?_, rfl⟩
      · rw [hv2.out]; (repeat' split) <;> omega
      · rw [hl2.out, Bool.eq_iff_iff]; simp only [Bool.or_eq_true, Bool.and_eq_true, decide_eq_true_eq, Bool.false_eq_true, true_iff, false_iff]; omega
end Go.Proofs.Ytdjeajbinpgpiaa
