/- ScanFinds, walked. -/
import Derived.Test.YtafinbcmelpieaaScanL
namespace Go.Proofs.Ytafinbcmelpieaa
open Go.RowKit

set_option maxHeartbeats 800000 in
theorem walk_ScanFinds (a0 : ByteArray) (a1 : Int) (a2 : ByteArray) (w0 : a0.size ≤ maxLen) (w2 : a2.size ≤ maxLen) (w : World) (hL : Lax w) :
    Calls Try.prog 5 #[.string a0, .int .i64 a1, .string a2] w fun e w' => e = .returned (.bool true) ∧ Below w.heap.size w w' := by
  unfold maxLen at w0 w2
  have hs := headB_le a0 80
  have ht := headB_le a2 10
  go_enter Try.func5, Try.ntmps5
  go_wp2_with fail
  refine (head_any _ _ _ (by omega) (by omega)).mono ?_
  rintro e w1 ⟨rfl, rfl⟩
  go_wp2_with fail
  refine (head_any _ _ _ (by omega) (by omega)).mono ?_
  rintro e w1 ⟨rfl, rfl⟩
  rw [show (10 : Int).toNat = 10 from rfl]
  generalize headB a0 80 = s at *
  generalize headB a2 10 = sub at *
  go_wp2_with fail
  refine (bwithin_any _ _ _ _ (by omega) (by omega) (by omega)).mono ?_
  rintro e w1 ⟨rfl, rfl⟩
  obtain ⟨k, hk, hk1, hk2⟩ := nat_of (Int.le_refl 0) (withinI_bd a1 0 s.size (by omega))
  rw [hk]
  clear hk
  have hkl : k ≤ (B s).length := by rw [← size_B]; omega
  go_wp2_with fail
  refine (find_at _ _ _ _ (by omega) (by omega) hL).mono ?_
  rintro e w1 ⟨rfl, rfl⟩
  have hf1 := findL_ge (B s) (B sub) k hkl
  have hf2 := findL_le (B s) (B sub) k hkl
  obtain ⟨hf3, hf4⟩ := findL_cases (B s) (B sub) k hkl
  rw [← size_B] at hf2 hf3
  generalize findL (B s) (B sub) k = f at *
  have HF := Lib.hid hf3
  have HN := Lib.hid hf4
  clear hf3 hf4
  have Hst : ∀ i w, i ≤ s.size → ∀ b, startsL (B s) (B sub) i = b → Calls Try.prog 15 #[.string s, .int .i64 (i : Int), .string sub] w fun e w' => e = .returned (.bool b) ∧ w = w' := by
    rintro i w hi b rfl
    exact starts_at s sub i w hi (by omega)
  have HS := Lib.hid Hst
  clear Hst
  have rest : ∀ Q : Prop, (∀ (hb : f < s.size ∨ ¬ f < s.size), Q) → Q := fun Q h => h (Nat.lt_or_ge f s.size |>.imp id (by omega))
  refine rest _ fun hb => ?_
  clear rest
  have d1 : decide (f < k) = false := decide_eq_false (by omega)
  have d2 : decide (s.size < f) = false := decide_eq_false (by omega)
  rcases hb with hlt | hge
  all_goals
    have d3 : decide (f < s.size) = true ∨ decide (f < s.size) = false := by cases decide (f < s.size) <;> simp
    first
      | have d4 : decide (f < s.size) = true := decide_eq_true hlt
      | have d4 : decide (f < s.size) = false := decide_eq_false hge
    clear d3
    go_wp2_with (first
      | (go_at_call 15; refine (HS.out f _ (by omega) true (HF.out.resolve_right (by omega))).mono ?_; rintro e w1 ⟨rfl, rfl⟩))
    go_loop [8] (fun i => ∃ j : Nat, k ≤ j ∧ j ≤ f ∧ i = .int .i64 j) (fun i => f - (intOf i).toNat)
    case atStart => exact ⟨k, Nat.le_refl _, hf1, rfl⟩
    case round =>
      obtain ⟨j, hj1, hj2, rfl⟩ := hrel
      by_cases hjf : j < f
      · go_wp2_with (first
          | (go_at_call 15; refine (HS.out j _ (by omega) false (HN.out j hj1 hjf)).mono ?_; rintro e w1 ⟨rfl, rfl⟩))
        refine ⟨⟨j + 1, by omega, by omega, by go_num⟩, by simp [intOf]; omega⟩
      · go_wp2_with fail
        refine (skip_at _ _ _ (by omega) (by omega)).mono ?_
        rintro e w1 ⟨rfl, rfl⟩
        have hg1 : k ≤ skipL (B s) k := stopL_ge _ _ _
        have hg2 : skipL (B s) k ≤ s.size := by rw [size_B]; exact stopL_le _ _ _ hkl
        have hg3 : skipL (B s) (skipL (B s) k) = skipL (B s) k := stopL_idem _ _ _ hkl
        generalize skipL (B s) k = g at *
        have HG := Lib.hid hg3
        clear hg3
        go_wp2_with fail
        refine (until_at _ _ _ _ (by omega) (by omega)).mono ?_
        rintro e w1 ⟨rfl, rfl⟩
        have hu1 : k ≤ untilL (B s) (B sub) k := stopL_ge _ _ _
        have hu2 : untilL (B s) (B sub) k ≤ s.size := by rw [size_B]; exact stopL_le _ _ _ hkl
        have hu3 : untilL (B s) (B sub) (untilL (B s) (B sub) k) = untilL (B s) (B sub) k := stopL_idem _ _ _ hkl
        generalize untilL (B s) (B sub) k = u at *
        have HU := Lib.hid hu3
        clear hu3
        go_wp2_with fail
        refine (skip_at _ _ _ (by omega) (by omega)).mono ?_
        rintro e w1 ⟨rfl, rfl⟩
        rw [HG.out]
        go_wp2_with fail
        refine (until_at _ _ _ _ (by omega) (by omega)).mono ?_
        rintro e w1 ⟨rfl, rfl⟩
        rw [HU.out]
        go_wp2_with fail
        refine (known_any _ hL).mono ?_
        rintro e w1 ⟨rfl, hb⟩
        go_wp2_with fail
        go_ret
        exact ⟨rfl, hb⟩

end Go.Proofs.Ytafinbcmelpieaa
