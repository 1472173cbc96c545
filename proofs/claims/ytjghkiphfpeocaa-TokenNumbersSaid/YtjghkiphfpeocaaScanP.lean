/- The functions of package scan, and what they call: Skip, Until. -/
import Derived.Test.YtjghkiphfpeocaaScanP0
import Derived.WalkKit
import Derived.KernelRfl
import Derived.WalkLawsBesides
import Derived.WalkSpells
import Derived.Lib.Hide
import Derived.Lib.ConvBytes
import Derived.Shelf.Vars
import Derived.Laws.BytesArg
namespace Go.Proofs.Ytjghkiphfpeocaa
open Go.RowKit

theorem indexByte_any (s : ByteArray) (c : Int) (w : World) :
    Calls Try.prog 79 #[.string s, .int .u8 c] w fun e w' => e = .returned (.int .i64 (Lib.indexByte (B s) c.toNat.toUInt8)) ∧ w = w' :=
  (Try.strings_IndexByte s c w).mono fun _ _ ⟨h, h'⟩ => ⟨h, h'.symm⟩
theorem space_any (c : Int) (w : World) :
    Calls Try.prog 78 #[.int .i32 c] w fun e w' => e = .returned (.bool (c == 9 || c == 10 || c == 12 || c == 13 || c == 32)) ∧ w = w' := by
  go_enter Try.func78, Try.ntmps78
  go_wp2
  all_goals
    go_ret
    refine ⟨ret_bool ?_, rfl⟩
    simp [*]

theorem space_eq (c : UInt8) : ((c.toNat : Int) == 9 || (c.toNat : Int) == 10 || (c.toNat : Int) == 12 || (c.toNat : Int) == 13 || (c.toNat : Int) == 32) = spaceB c := by
    have e : ∀ n : Nat, n < 256 → (((c.toNat : Int) == (n : Int)) = (c == UInt8.ofNat n)) := fun n hn => by
      rw [Bool.eq_iff_iff, beq_iff_eq, beq_iff_eq, ← UInt8.toNat_inj, UInt8.toNat_ofNat_of_lt' hn]
      omega
    have e9 := e 9 (by omega)
    have e10 := e 10 (by omega)
    have e12 := e 12 (by omega)
    have e13 := e 13 (by omega)
    have e32 := e 32 (by omega)
    unfold spaceB
    simp only [Int.cast_ofNat_Int] at e9 e10 e12 e13 e32
    rw [e9, e10, e12, e13, e32]
    rfl
theorem space_byte (c : UInt8) (w : World) :
    Calls Try.prog 78 #[.int .i32 (c.toNat : Int)] w fun e w' => e = .returned (.bool (spaceB c)) ∧ w = w' :=
  (space_any _ w).mono fun _ _ ⟨h, h'⟩ => ⟨h.trans (ret_bool (space_eq c)), h'⟩

/-- As the walk writes 'Space(rune(c))'. -/
theorem space_rune (c : UInt8) (w : World) :
    Calls Try.prog 78 #[.int .i32 (wrap32 (c.toNat : Int))] w fun e w' => e = .returned (.bool (spaceB c)) ∧ w = w' := by
  rw [wrap_byte]
  exact space_byte c w

set_option maxHeartbeats 400000 in
theorem skip_any (s : ByteArray) (at_ : Int) (w : World) (hs : s.size ≤ 9223372036854775807) :
    Calls Try.prog 64 #[.string s, .int .i64 at_] w fun e w' => e = .returned (.int .i64 (skipL (B s) (clampN at_ s.size) : Nat)) ∧ w = w' := by
  have hk := clampN_le at_ s.size
  have Hw := fun w => within_any s at_ w hs
  generalize clampN at_ s.size = k at *
  go_enter Try.func64, Try.ntmps64
  go_wp2_with (first
    | (go_at_call 58; refine (Hw _).mono ?_; rintro e w' ⟨rfl, rfl⟩))
  go_loop [1] (fun i => ∃ j : Nat, k ≤ j ∧ j ≤ s.size ∧ i = .int .i64 j ∧ skipL (B s) j = skipL (B s) k) (fun i => s.size - (intOf i).toNat)
  case atStart => exact ⟨k, Nat.le_refl _, hk, rfl, rfl⟩
  case round =>
    obtain ⟨j, hj1, hj2, rfl, he⟩ := hrel
    have HE := Lib.hid he
    clear he
    by_cases hlt : j < s.size
    · go_wp2_with (first
          | (go_at_call 78; refine (space_rune _ _).mono ?_; rintro e w' ⟨rfl, rfl⟩))
      · have hp : spaceB s[j] = true := by assumption
        refine ⟨⟨j + 1, by omega, by omega, by go_num, (stopB_step _ s j hlt hp).trans HE.out⟩, by simp [intOf]; omega⟩
      · have hp : spaceB s[j] = false := by assumption
        go_ret
        refine ⟨ret_int ?_, rfl⟩
        rw [← HE.out, skipL, stopB_stop _ s j hlt hp]
    · go_wp2
      go_ret
      refine ⟨ret_int ?_, rfl⟩
      rw [← HE.out, skipL, stopB_end _ s j hlt]

set_option maxHeartbeats 400000 in
theorem until_any (s : ByteArray) (at_ : Int) (set : ByteArray) (w : World) (hs : s.size ≤ 9223372036854775807) :
    Calls Try.prog 65 #[.string s, .int .i64 at_, .string set] w fun e w' => e = .returned (.int .i64 (untilL (B s) (B set) (clampN at_ s.size) : Nat)) ∧ w = w' := by
  have hk := clampN_le at_ s.size
  have Hw := fun w => within_any s at_ w hs
  generalize clampN at_ s.size = k at *
  go_enter Try.func65, Try.ntmps65
  go_wp2_with (first
    | (go_at_call 58; refine (Hw _).mono ?_; rintro e w' ⟨rfl, rfl⟩))
  go_loop [1] (fun i => ∃ j : Nat, k ≤ j ∧ j ≤ s.size ∧ i = .int .i64 j ∧ untilL (B s) (B set) j = untilL (B s) (B set) k) (fun i => s.size - (intOf i).toNat)
  case atStart => exact ⟨k, Nat.le_refl _, hk, rfl, rfl⟩
  case round =>
    obtain ⟨j, hj1, hj2, rfl, he⟩ := hrel
    have HE := Lib.hid he
    clear he
    by_cases hlt : j < s.size
    · go_wp2_with (first
          | (go_at_call 79; refine (indexByte_any _ _ _).mono ?_; rintro e w' ⟨rfl, rfl⟩; rw [byte_back]))
      · have hp : Lib.indexByte (B set) s[j] < 0 := by assumption
        refine ⟨⟨j + 1, by omega, by omega, by go_num, (stopB_step _ s j hlt ((indexByte_neg _ _).1 hp)).trans HE.out⟩, by simp [intOf]; omega⟩
      · have hp : ¬ Lib.indexByte (B set) s[j] < 0 := by omega
        go_ret
        refine ⟨ret_int ?_, rfl⟩
        rw [← HE.out, untilL, stopB_stop _ s j hlt (by rw [indexByte_neg, Bool.not_eq_true] at hp; exact hp)]
    · go_wp2
      go_ret
      refine ⟨ret_int ?_, rfl⟩
      rw [← HE.out, untilL, stopB_end _ s j hlt]


end Go.Proofs.Ytjghkiphfpeocaa
