/- The reference's first. -/
import Derived.Test.YtpdbbpmkdkjppaaDoorUtfQ
namespace Go.Proofs.YtpdbbpmkdkjppaaDoor
open Go.RowKit

def firstU (c : Nat) : Int × Nat × Nat := match leadU c with
  | none => (-1, 0, 0)
  | some (k, lo, hi) => (k, lo, hi)
set_option maxHeartbeats 4000000 in
set_option maxRecDepth 100000 in
theorem first_any (w : World) (c : Nat) (hc : c < 256) :
    Calls Tryd.prog 26 #[.int .u8 c] w fun e w' => e = .returned (.tuple #[.int .i64 (firstU c).1, .int .u8 (firstU c).2.1, .int .u8 (firstU c).2.2]) ∧ w = w' := by
  rcases (by omega : (c < 194) ∨ (194 ≤ c ∧ c ≤ 223) ∨ (c = 224) ∨ (225 ≤ c ∧ c ≤ 236) ∨ (c = 237) ∨ (238 ≤ c ∧ c ≤ 239) ∨ (c = 240) ∨ (241 ≤ c ∧ c ≤ 243) ∨ (c = 244) ∨ (245 ≤ c)) with h | h | h | h | h | h | h | h | h | h
  · have e : firstU c = (-1, 0, 0) := by unfold firstU leadU; rw [if_neg (by omega), if_neg (by omega), if_neg (by omega), if_neg (by omega), if_neg (by omega), if_neg (by omega), if_neg (by omega)]; try rfl
    rw [e]
    clear e
    have d0 : decide (194 ≤ c) = false := decide_eq_false (by omega)
    have d1 : decide (c ≤ 223) = true := decide_eq_true (by omega)
    have d2 : decide (c = 224) = false := decide_eq_false (by omega)
    have n2 : ¬ c = 224 := by omega
    have d3 : decide (c = 237) = false := decide_eq_false (by omega)
    have n3 : ¬ c = 237 := by omega
    have d4 : decide (225 ≤ c) = false := decide_eq_false (by omega)
    have d5 : decide (c ≤ 239) = true := decide_eq_true (by omega)
    have d6 : decide (c = 240) = false := decide_eq_false (by omega)
    have n6 : ¬ c = 240 := by omega
    have d7 : decide (c = 244) = false := decide_eq_false (by omega)
    have n7 : ¬ c = 244 := by omega
    have d8 : decide (241 ≤ c) = false := decide_eq_false (by omega)
    have d9 : decide (c ≤ 243) = true := decide_eq_true (by omega)
    go_enter Tryd.func26, Tryd.ntmps26
    go_wp2_with fail
    go_ret3
    exact ⟨rfl, rfl⟩
  · have e : firstU c = (1, 128, 191) := by unfold firstU leadU; rw [if_pos (by omega)]; try rfl
    rw [e]
    clear e
    have d0 : decide (194 ≤ c) = true := decide_eq_true (by omega)
    have d1 : decide (c ≤ 223) = true := decide_eq_true (by omega)
    have d2 : decide (c = 224) = false := decide_eq_false (by omega)
    have n2 : ¬ c = 224 := by omega
    have d3 : decide (c = 237) = false := decide_eq_false (by omega)
    have n3 : ¬ c = 237 := by omega
    have d4 : decide (225 ≤ c) = false := decide_eq_false (by omega)
    have d5 : decide (c ≤ 239) = true := decide_eq_true (by omega)
    have d6 : decide (c = 240) = false := decide_eq_false (by omega)
    have n6 : ¬ c = 240 := by omega
    have d7 : decide (c = 244) = false := decide_eq_false (by omega)
    have n7 : ¬ c = 244 := by omega
    have d8 : decide (241 ≤ c) = false := decide_eq_false (by omega)
    have d9 : decide (c ≤ 243) = true := decide_eq_true (by omega)
    go_enter Tryd.func26, Tryd.ntmps26
    go_wp2_with fail
    go_ret3
    exact ⟨rfl, rfl⟩
  · subst h
    have e : firstU 224 = (2, 160, 191) := rfl
    rw [e]
    clear e hc
    go_enter Tryd.func26, Tryd.ntmps26
    go_wp2_with fail
    go_ret3
    exact ⟨rfl, rfl⟩
  · have e : firstU c = (2, 128, 191) := by unfold firstU leadU; rw [if_neg (by omega), if_neg (by omega), if_neg (by omega), if_pos (by omega)]; try rfl
    rw [e]
    clear e
    have d0 : decide (194 ≤ c) = true := decide_eq_true (by omega)
    have d1 : decide (c ≤ 223) = false := decide_eq_false (by omega)
    have d2 : decide (c = 224) = false := decide_eq_false (by omega)
    have n2 : ¬ c = 224 := by omega
    have d3 : decide (c = 237) = false := decide_eq_false (by omega)
    have n3 : ¬ c = 237 := by omega
    have d4 : decide (225 ≤ c) = true := decide_eq_true (by omega)
    have d5 : decide (c ≤ 239) = true := decide_eq_true (by omega)
    have d6 : decide (c = 240) = false := decide_eq_false (by omega)
    have n6 : ¬ c = 240 := by omega
    have d7 : decide (c = 244) = false := decide_eq_false (by omega)
    have n7 : ¬ c = 244 := by omega
    have d8 : decide (241 ≤ c) = false := decide_eq_false (by omega)
    have d9 : decide (c ≤ 243) = true := decide_eq_true (by omega)
    go_enter Tryd.func26, Tryd.ntmps26
    go_wp2_with fail
    go_ret3
    exact ⟨rfl, rfl⟩
  · subst h
    have e : firstU 237 = (2, 128, 159) := rfl
    rw [e]
    clear e hc
    go_enter Tryd.func26, Tryd.ntmps26
    go_wp2_with fail
    go_ret3
    exact ⟨rfl, rfl⟩
  · have e : firstU c = (2, 128, 191) := by unfold firstU leadU; rw [if_neg (by omega), if_neg (by omega), if_neg (by omega), if_pos (by omega)]; try rfl
    rw [e]
    clear e
    have d0 : decide (194 ≤ c) = true := decide_eq_true (by omega)
    have d1 : decide (c ≤ 223) = false := decide_eq_false (by omega)
    have d2 : decide (c = 224) = false := decide_eq_false (by omega)
    have n2 : ¬ c = 224 := by omega
    have d3 : decide (c = 237) = false := decide_eq_false (by omega)
    have n3 : ¬ c = 237 := by omega
    have d4 : decide (225 ≤ c) = true := decide_eq_true (by omega)
    have d5 : decide (c ≤ 239) = true := decide_eq_true (by omega)
    have d6 : decide (c = 240) = false := decide_eq_false (by omega)
    have n6 : ¬ c = 240 := by omega
    have d7 : decide (c = 244) = false := decide_eq_false (by omega)
    have n7 : ¬ c = 244 := by omega
    have d8 : decide (241 ≤ c) = false := decide_eq_false (by omega)
    have d9 : decide (c ≤ 243) = true := decide_eq_true (by omega)
    go_enter Tryd.func26, Tryd.ntmps26
    go_wp2_with fail
    go_ret3
    exact ⟨rfl, rfl⟩
  · subst h
    have e : firstU 240 = (3, 144, 191) := rfl
    rw [e]
    clear e hc
    go_enter Tryd.func26, Tryd.ntmps26
    go_wp2_with fail
    go_ret3
    exact ⟨rfl, rfl⟩
  · have e : firstU c = (3, 128, 191) := by unfold firstU leadU; rw [if_neg (by omega), if_neg (by omega), if_neg (by omega), if_neg (by omega), if_neg (by omega), if_neg (by omega), if_pos (by omega)]; try rfl
    rw [e]
    clear e
    have d0 : decide (194 ≤ c) = true := decide_eq_true (by omega)
    have d1 : decide (c ≤ 223) = false := decide_eq_false (by omega)
    have d2 : decide (c = 224) = false := decide_eq_false (by omega)
    have n2 : ¬ c = 224 := by omega
    have d3 : decide (c = 237) = false := decide_eq_false (by omega)
    have n3 : ¬ c = 237 := by omega
    have d4 : decide (225 ≤ c) = true := decide_eq_true (by omega)
    have d5 : decide (c ≤ 239) = false := decide_eq_false (by omega)
    have d6 : decide (c = 240) = false := decide_eq_false (by omega)
    have n6 : ¬ c = 240 := by omega
    have d7 : decide (c = 244) = false := decide_eq_false (by omega)
    have n7 : ¬ c = 244 := by omega
    have d8 : decide (241 ≤ c) = true := decide_eq_true (by omega)
    have d9 : decide (c ≤ 243) = true := decide_eq_true (by omega)
    go_enter Tryd.func26, Tryd.ntmps26
    go_wp2_with fail
    go_ret3
    exact ⟨rfl, rfl⟩
  · subst h
    have e : firstU 244 = (3, 128, 143) := rfl
    rw [e]
    clear e hc
    go_enter Tryd.func26, Tryd.ntmps26
    go_wp2_with fail
    go_ret3
    exact ⟨rfl, rfl⟩
  · have e : firstU c = (-1, 0, 0) := by unfold firstU leadU; rw [if_neg (by omega), if_neg (by omega), if_neg (by omega), if_neg (by omega), if_neg (by omega), if_neg (by omega), if_neg (by omega)]; try rfl
    rw [e]
    clear e
    have d0 : decide (194 ≤ c) = true := decide_eq_true (by omega)
    have d1 : decide (c ≤ 223) = false := decide_eq_false (by omega)
    have d2 : decide (c = 224) = false := decide_eq_false (by omega)
    have n2 : ¬ c = 224 := by omega
    have d3 : decide (c = 237) = false := decide_eq_false (by omega)
    have n3 : ¬ c = 237 := by omega
    have d4 : decide (225 ≤ c) = true := decide_eq_true (by omega)
    have d5 : decide (c ≤ 239) = false := decide_eq_false (by omega)
    have d6 : decide (c = 240) = false := decide_eq_false (by omega)
    have n6 : ¬ c = 240 := by omega
    have d7 : decide (c = 244) = false := decide_eq_false (by omega)
    have n7 : ¬ c = 244 := by omega
    have d8 : decide (241 ≤ c) = true := decide_eq_true (by omega)
    have d9 : decide (c ≤ 243) = false := decide_eq_false (by omega)
    go_enter Tryd.func26, Tryd.ntmps26
    go_wp2_with fail
    go_ret3
    exact ⟨rfl, rfl⟩

end Go.Proofs.YtpdbbpmkdkjppaaDoor
