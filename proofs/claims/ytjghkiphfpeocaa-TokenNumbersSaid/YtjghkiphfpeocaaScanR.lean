/- The functions of the references' chapters 4 and 9: Find, Until, Skip. -/
import Derived.Test.YtjghkiphfpeocaaScanP
import Derived.Test.YtjghkiphfpeocaaScanR0
namespace Go.Proofs.Ytjghkiphfpeocaa
open Go.RowKit

set_option maxHeartbeats 400000 in
theorem rfind_any (s : ByteArray) (at_ : Int) (sub : ByteArray) (w : World) (hs : s.size ≤ 140737488355328) (ht : sub.size ≤ 140737488355328) :
    Calls Try.prog 52 #[.string s, .int .i64 at_, .string sub] w fun e w' => e = .returned (.int .i64 (findL (B s) (B sub) (clampN at_ s.size) : Nat)) ∧ w = w' := by
  have hk := clampN_le at_ s.size
  have Hw := fun w => rplace_any s at_ w (by omega)
  generalize clampN at_ s.size = k at *
  go_enter Try.func52, Try.ntmps52
  go_wp2_with (first
    | (go_at_call 71; refine (Hw _).mono ?_; rintro e w' ⟨rfl, rfl⟩))
  go_loop [7] (fun i => ∃ j : Nat, k ≤ j ∧ j ≤ s.size + 1 ∧ i = .int .i64 j ∧ (∀ m, k ≤ m → m < j → Lib.occAt (B s) (B sub) m = false)) (fun i => s.size + 1 - (intOf i).toNat)
  case atStart => exact ⟨k, Nat.le_refl _, by omega, rfl, fun m h1 h2 => absurd h2 (by omega)⟩
  case round =>
    obtain ⟨j, hj1, hj2, rfl, he⟩ := hrel
    have HE := Lib.hid he
    clear he
    by_cases hlt : j ≤ s.size
    · have Hs := fun w => rstarts_any s sub j w hs ht
      rw [clampN_nat j s.size hlt] at Hs
      go_wp2_with (first
          | (go_at_call 44; refine (Hs _).mono ?_; rintro e w' ⟨rfl, rfl⟩))
      · have hp : startsL (B s) (B sub) j = true := by assumption
        go_ret
        refine ⟨ret_int ?_, rfl⟩
        rw [findL_first (B s) (B sub) k j hj1 (by rw [← size_B]; exact hlt) hp HE.out]
      · have hp : startsL (B s) (B sub) j = false := by assumption
        refine ⟨⟨j + 1, by omega, by omega, by go_num, fun m h1 h2 => ?_⟩, by simp [intOf]; omega⟩
        by_cases e : m = j
        · subst e; exact hp
        · exact HE.out m h1 (by omega)
    · go_wp2
      go_ret
      refine ⟨ret_int ?_, rfl⟩
      rw [findL_none (B s) (B sub) k (by rw [← size_B]; exact hk) (fun m h1 h2 => HE.out m h1 (by rw [← size_B] at h2; omega)), ← size_B]

theorem hasB_take (l : List UInt8) (c : UInt8) (j : Nat) (h : j < l.length) (h0 : hasB (l.take j) c = false) : hasB (l.take (j + 1)) c = (l[j] == c) := by
  unfold hasB at *
  rw [List.take_succ_eq_append_getElem h, List.any_append, h0, Bool.false_or]
  simp
theorem hasB_more (l : List UInt8) (c : UInt8) (j : Nat) (h : hasB (l.take j) c = true) : hasB l c = true := by
  rw [hasB_iff] at *
  exact List.mem_of_mem_take h
theorem byte_eq {a b : UInt8} (h : ((a.toNat : Int) == (b.toNat : Int)) = true) : a = b := UInt8.toNat_inj.1 (by rw [beq_iff_eq] at h; omega)

theorem rhas_any (s : ByteArray) (c : UInt8) (w : World) (hs : s.size ≤ 140737488355328) :
    Calls Try.prog 72 #[.string s, .int .u8 (c.toNat : Int)] w fun e w' => e = .returned (.bool (hasB (B s) c)) ∧ w = w' := by
  go_enter Try.func72, Try.ntmps72
  go_wp2_with fail
  go_loop [5] (fun i => ∃ j : Nat, j ≤ s.size ∧ i = .int .i64 j ∧ hasB ((B s).take j) c = false) (fun i => s.size - (intOf i).toNat)
  case atStart => exact ⟨0, by omega, rfl, rfl⟩
  case round =>
    obtain ⟨j, hj, rfl, he⟩ := hrel
    have HE := Lib.hid he
    clear he
    by_cases hlt : j < s.size
    · have hlt' : j < (B s).length := by rw [← size_B]; exact hlt
      have hc := hasB_take (B s) c j hlt' HE.out
      rw [B_get s j hlt hlt'] at hc
      have HC := Lib.hid hc
      clear hc
      go_wp2_with fail
      · have hp : s[j] = c := byte_eq (by assumption)
        go_ret
        exact ⟨ret_bool (hasB_more _ _ (j + 1) (by rw [HC.out, beq_iff_eq]; exact hp)).symm, rfl⟩
      · have hp : ((s[j].toNat : Int) == (c.toNat : Int)) = false := by assumption
        refine ⟨⟨j + 1, by omega, by go_num, ?_⟩, by simp [intOf]; omega⟩
        rw [HC.out, beq_eq_false_iff_ne]
        intro e
        rw [e] at hp
        simp at hp
    · go_wp2
      go_ret
      refine ⟨ret_bool ?_, rfl⟩
      rw [← HE.out, List.take_of_length_le (by rw [← size_B]; omega)]

theorem runtil_any (s : ByteArray) (at_ : Int) (set : ByteArray) (w : World) (hs : s.size ≤ 140737488355328) (ht : set.size ≤ 140737488355328) :
    Calls Try.prog 50 #[.string s, .int .i64 at_, .string set] w fun e w' => e = .returned (.int .i64 (untilL (B s) (B set) (clampN at_ s.size) : Nat)) ∧ w = w' := by
  have hk := clampN_le at_ s.size
  have Hw := fun w => rplace_any s at_ w (by omega)
  generalize clampN at_ s.size = k at *
  go_enter Try.func50, Try.ntmps50
  go_wp2_with (first
    | (go_at_call 71; refine (Hw _).mono ?_; rintro e w' ⟨rfl, rfl⟩))
  go_loop [7] (fun i => ∃ j : Nat, k ≤ j ∧ j ≤ s.size ∧ i = .int .i64 j ∧ untilL (B s) (B set) j = untilL (B s) (B set) k) (fun i => s.size - (intOf i).toNat)
  case atStart => exact ⟨k, Nat.le_refl _, hk, rfl, rfl⟩
  case round =>
    obtain ⟨j, hj1, hj2, rfl, he⟩ := hrel
    have HE := Lib.hid he
    clear he
    by_cases hlt : j < s.size
    · go_wp2_with (first
          | (go_at_call 72; refine (rhas_any _ _ _ ht).mono ?_; rintro e w' ⟨rfl, rfl⟩))
      · have hp : (!hasB (B set) s[j]) = true := by assumption
        refine ⟨⟨j + 1, by omega, by omega, by go_num, (stopB_step _ s j hlt hp).trans HE.out⟩, by simp [intOf]; omega⟩
      · have hp : (!hasB (B set) s[j]) = false := by assumption
        go_ret
        refine ⟨ret_int ?_, rfl⟩
        rw [← HE.out, untilL, stopB_stop _ s j hlt hp]
    · go_wp2
      go_ret
      refine ⟨ret_int ?_, rfl⟩
      rw [← HE.out, untilL, stopB_end _ s j hlt]


theorem rspace_any (c : Int) (w : World) :
    Calls Try.prog 54 #[.int .i32 c] w fun e w' => e = .returned (.bool (c == 9 || c == 10 || c == 12 || c == 13 || c == 32)) ∧ w = w' := by
  go_enter Try.func54, Try.ntmps54
  go_wp2
  all_goals
    go_ret
    refine ⟨ret_bool ?_, rfl⟩
    simp [*]

theorem rspace_rune (c : UInt8) (w : World) :
    Calls Try.prog 54 #[.int .i32 (wrap32 (c.toNat : Int))] w fun e w' => e = .returned (.bool (spaceB c)) ∧ w = w' := by
  rw [wrap_byte]
  exact (rspace_any _ w).mono fun _ _ ⟨h, h'⟩ => ⟨h.trans (ret_bool (space_eq c)), h'⟩

theorem rskip_any (s : ByteArray) (at_ : Int) (w : World) (hs : s.size ≤ 140737488355328) :
    Calls Try.prog 49 #[.string s, .int .i64 at_] w fun e w' => e = .returned (.int .i64 (skipL (B s) (clampN at_ s.size) : Nat)) ∧ w = w' := by
  have hk := clampN_le at_ s.size
  have Hw := fun w => rplace_any s at_ w (by omega)
  generalize clampN at_ s.size = k at *
  go_enter Try.func49, Try.ntmps49
  go_wp2_with (first
    | (go_at_call 71; refine (Hw _).mono ?_; rintro e w' ⟨rfl, rfl⟩))
  go_loop [5] (fun i => ∃ j : Nat, k ≤ j ∧ j ≤ s.size ∧ i = .int .i64 j ∧ skipL (B s) j = skipL (B s) k) (fun i => s.size - (intOf i).toNat)
  case atStart => exact ⟨k, Nat.le_refl _, hk, rfl, rfl⟩
  case round =>
    obtain ⟨j, hj1, hj2, rfl, he⟩ := hrel
    have HE := Lib.hid he
    clear he
    by_cases hlt : j < s.size
    · go_wp2_with (first
          | (go_at_call 54; refine (rspace_rune _ _).mono ?_; rintro e w' ⟨rfl, rfl⟩))
      · have hp : spaceB s[j] = true := by assumption
        refine ⟨⟨j + 1, by omega, by omega, by go_num, (stopB_step _ s j hlt hp).trans HE.out⟩, by simp [intOf]; omega⟩
      · have hp : spaceB s[j] = false := by assumption
        go_ret
        refine ⟨ret_int ?_, rfl⟩
        rw [← HE.out, skipL, stopB_stop _ s j hlt hp]
    · go_wp2
      go_ret
      refine ⟨ret_int ?_, rfl⟩
      rw [← HE.out, skipL, stopB_end _ s j hlt]

end Go.Proofs.Ytjghkiphfpeocaa
