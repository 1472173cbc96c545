/- The statements' own helpers: Head, Within; a text's pieces. -/
import Derived.Test.YtjghkiphfpeocaaScanP0
namespace Go.Proofs.Ytjghkiphfpeocaa
open Go.RowKit

theorem occ_take (l sub : List UInt8) (k : Nat) (h : sub.length ≤ l.length - k) : (((l.drop k).take sub.length) == sub) = startsL l sub k := by
  unfold startsL Lib.occAt
  rw [← Lib.hasPrefix, ← Lib.hasPrefix_of_take, decide_eq_true (by rw [List.length_drop]; exact h), Bool.true_and]
theorem occ_short (l sub : List UInt8) (k : Nat) (h : ¬ sub.length ≤ l.length - k) : startsL l sub k = false := by
  unfold startsL Lib.occAt
  rw [← Lib.hasPrefix, ← Lib.hasPrefix_of_take, decide_eq_false (by rw [List.length_drop]; exact h), Bool.false_and]

theorem head_any (s : ByteArray) (n : Int) (w : World) (h0 : 0 ≤ n) (_hs : s.size ≤ 9223372036854775807) :
    Calls Try.prog 12 #[.string s, .int .i64 n] w fun e w' => e = .returned (.string (headB s n.toNat)) ∧ w = w' := by
  obtain ⟨n, rfl⟩ := Int.eq_ofNat_of_zero_le h0
  by_cases hlt : n < s.size
  · go_enter Try.func12, Try.ntmps12
    go_wp2_with fail
    go_ret
    exact ⟨ret_str (by unfold headB; rw [Int.toNat_natCast, if_pos hlt]), rfl⟩
  · go_enter Try.func12, Try.ntmps12
    go_wp2_with fail
    go_ret
    exact ⟨ret_str (by unfold headB; rw [Int.toNat_natCast, if_neg hlt]), rfl⟩

theorem bwithin_any (n lo hi : Int) (w : World) (h0 : 0 ≤ lo) (h : lo ≤ hi) (h2 : hi ≤ 140737488355328) :
    Calls Try.prog 13 #[.int .i64 n, .int .i64 lo, .int .i64 hi] w fun e w' => e = .returned (.int .i64 (withinI n lo hi)) ∧ w = w' := by
  have h1 := Int.tmod_lt_of_pos n (show 0 < hi - lo + 1 by omega)
  have h3 := Int.lt_tmod_of_pos n (show 0 < hi - lo + 1 by omega)
  have e : ((hi - lo + 1) == 0) = false := by rw [beq_eq_false_iff_ne]; omega
  go_enter Try.func13, Try.ntmps13
  go_wp2_with fail
  · go_ret
    exact ⟨ret_int (by unfold withinI; rw [if_pos (by assumption)]), rfl⟩
  · go_ret
    exact ⟨ret_int (by unfold withinI; rw [if_neg (by omega)]), rfl⟩
end Go.Proofs.Ytjghkiphfpeocaa
