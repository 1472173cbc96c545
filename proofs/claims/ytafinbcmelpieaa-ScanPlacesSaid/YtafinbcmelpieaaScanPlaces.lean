/- ScanPlaces, walked. -/
import Derived.Test.YtafinbcmelpieaaScanL
namespace Go.Proofs.Ytafinbcmelpieaa
open Go.RowKit

theorem clampN_out (a : Int) (n k : Nat) (h : (a < 0 ∧ k = 0) ∨ ((n : Int) ≤ a ∧ k = n)) : clampN a n = k := by unfold clampN; omega

set_option maxRecDepth 100000 in
set_option maxHeartbeats 1000000 in
theorem walk_ScanPlaces (a0 a1 : ByteArray) (a2 : Int) (w0 : a0.size ≤ maxLen) (w1 : a1.size ≤ maxLen) (w : World) (hL : Lax w) :
    Calls Try.prog 8 #[.string a0, .string a1, .int .i64 a2] w fun e w' => e = .returned (.bool true) ∧ Below w.heap.size w w' := by
  unfold maxLen at w0 w1
  have hs := headB_le a0 60
  have ht := headB_le a1 10
  go_enter Try.func8, Try.ntmps8
  go_wp2_with fail
  refine (head_any _ _ _ (by omega) (by omega)).mono ?_
  rintro e w1 ⟨rfl, rfl⟩
  go_wp2_with fail
  refine (head_any _ _ _ (by omega) (by omega)).mono ?_
  rintro e w1 ⟨rfl, rfl⟩
  rw [show (10 : Int).toNat = 10 from rfl]
  generalize headB a0 60 = s at *
  generalize headB a1 10 = sub at *
  have hx := withinI_bd a2 0 1099511627776 (by omega)
  have Hx := fun w => bwithin_any a2 0 1099511627776 w (by omega) (by omega) (by omega)
  generalize withinI a2 0 1099511627776 = x at *
  go_wp2_with (first
    | (go_at_call 14; refine (Hx _).mono ?_; rintro e w1 ⟨rfl, rfl⟩))
  have hq : -1 - x < 0 := by omega
  have hc : ∀ q : Nat, q < 2 → ∃ a : Int, (a < 0 ∨ (0 ≤ a ∧ (s.size : Int) ≤ a)) ∧ a ≤ 1099511627836 ∧ -1099511627836 ≤ a ∧ (#[Value.int .i64 (-1 - x), Value.int .i64 (s.size + x)])[q]? = some (.int .i64 a) := by
    intro q hq2
    match q, hq2 with
    | 0, _ => exact ⟨-1 - x, .inl (by omega), by omega, by omega, rfl⟩
    | 1, _ => exact ⟨s.size + x, .inr ⟨by omega, by omega⟩, by omega, by omega, rfl⟩
  have hB : Blk (w.alloc (.cells #[.int .i64 (-1 - x), .int .i64 (s.size + x)] 3)) w.heap.size 3 #[.int .i64 (-1 - x), .int .i64 (s.size + x)] (0, 0) := Blk.new _ _ _ _
  have hb0 : Below w.heap.size w (w.alloc (.cells #[.int .i64 (-1 - x), .int .i64 (s.size + x)] 3)) := (Below.refl _ _).alloc (Nat.le_refl _) _
  have hL0 := hL.below hb0
  generalize w.alloc (.cells #[.int .i64 (-1 - x), .int .i64 (s.size + x)] 3) = wa at *
  generalize (#[.int .i64 (-1 - x), .int .i64 (s.size + x)] : Array Value) = C at *
  have HC := Lib.hid hc
  clear hc
  go_loopw [8, 9, 24] (fun _ _ i wr => ∃ q : Nat, q ≤ 2 ∧ i = .int .i64 q ∧ Below w.heap.size w wr ∧ Blk wr w.heap.size 3 C (0, 0) ∧ Lax wr) (fun _ _ i _ => 2 - (intOf i).toNat)
  case atStart => exact ⟨0, by omega, rfl, hb0, hB, hL0⟩
  case round =>
    obtain ⟨q, hq2, rfl, hb, hk, hL1⟩ := hrel
    have HB := Lib.hid hb
    have HK := Lib.hid hk
    clear hb hk hb0 hB hL0
    by_cases hlt : q < 2
    · obtain ⟨a, ha, ha1, ha2, hq3⟩ := HC.out q hlt
      have hcell := (HK.out.cell q).trans hq3
      clear hq3
      rcases ha with ha | ⟨ha, ha0⟩
      · have hcl : clampN a s.size = 0 := clampN_out _ _ _ (.inl ⟨ha, rfl⟩)
        have hck : clampN 0 s.size = 0 := clampN_nat 0 _ (Nat.zero_le _)
        have HCL := Lib.hid hcl
        have HCK := Lib.hid hck
        clear hcl hck
        have d1 : (a == (s.size : Int)) = false := by rw [beq_eq_false_iff_ne]; omega
        go_wp2_with fail
        refine (starts_any _ _ _ _ (by omega)).mono ?_; rintro e w1 ⟨rfl, rfl⟩; rw [HCL.out]
        go_wp2_with fail
        refine (starts_any _ _ _ _ (by omega)).mono ?_; rintro e w1 ⟨rfl, rfl⟩; rw [HCK.out]
        go_wp2_with fail
        refine (fold_any _ _ _ _ (by omega) (by omega)).mono ?_; rintro e w2 ⟨rfl, hb2⟩; rw [HCL.out]
        go_wp2_with fail
        refine (fold_any _ _ _ _ (by omega) (by omega)).mono ?_; rintro e w3 ⟨rfl, hb3⟩; rw [HCK.out]
        have hL3 := (hL1.below hb2).below hb3
        go_wp2_with fail
        refine (find_any _ _ _ _ (by omega) hL3).mono ?_; rintro e w1 ⟨rfl, rfl⟩; rw [HCL.out]
        go_wp2_with fail
        refine (find_any _ _ _ _ (by omega) hL3).mono ?_; rintro e w1 ⟨rfl, rfl⟩; rw [HCK.out]
        go_wp2_with fail
        refine (until_any _ _ _ _ (by omega)).mono ?_; rintro e w1 ⟨rfl, rfl⟩; rw [HCL.out]
        go_wp2_with fail
        refine (until_any _ _ _ _ (by omega)).mono ?_; rintro e w1 ⟨rfl, rfl⟩; rw [HCK.out]
        go_wp2_with fail
        refine (skip_any _ _ _ (by omega)).mono ?_; rintro e w1 ⟨rfl, rfl⟩; rw [HCL.out]
        go_wp2_with fail
        refine (skip_any _ _ _ (by omega)).mono ?_; rintro e w1 ⟨rfl, rfl⟩; rw [HCK.out]
        go_wp2_with fail
        refine (name_any _ _ _ (by omega)).mono ?_; rintro e w1 ⟨rfl, rfl⟩; rw [HCL.out]
        go_wp2_with fail
        refine (name_any _ _ _ (by omega)).mono ?_; rintro e w1 ⟨rfl, rfl⟩; rw [HCK.out]
        go_wp2_with fail
        refine ⟨⟨q + 1, by omega, by go_num, below_then (below_then HB.out HB.out.size hb2) (below_then HB.out HB.out.size hb2).size hb3, (HK.out.keep hb2).keep hb3, hL3⟩, by simp [intOf]; omega⟩
      · have hcl : clampN a s.size = s.size := clampN_out _ _ _ (.inr ⟨ha0, rfl⟩)
        have hck : clampN (s.size : Int) s.size = s.size := clampN_nat _ _ (Nat.le_refl _)
        have HCL := Lib.hid hcl
        have HCK := Lib.hid hck
        clear hcl hck
        by_cases hpos : 0 < a
        all_goals
          first
            | have d1 : decide (0 < a) = true := decide_eq_true hpos
            | have d1 : (a == (s.size : Int)) = true := by rw [beq_iff_eq]; omega
          go_wp2_with fail
          refine (starts_any _ _ _ _ (by omega)).mono ?_; rintro e w1 ⟨rfl, rfl⟩; rw [HCL.out]
          go_wp2_with fail
          refine (starts_any _ _ _ _ (by omega)).mono ?_; rintro e w1 ⟨rfl, rfl⟩; rw [HCK.out]
          go_wp2_with fail
          refine (fold_any _ _ _ _ (by omega) (by omega)).mono ?_; rintro e w2 ⟨rfl, hb2⟩; rw [HCL.out]
          go_wp2_with fail
          refine (fold_any _ _ _ _ (by omega) (by omega)).mono ?_; rintro e w3 ⟨rfl, hb3⟩; rw [HCK.out]
          have hL3 := (hL1.below hb2).below hb3
          go_wp2_with fail
          refine (find_any _ _ _ _ (by omega) hL3).mono ?_; rintro e w1 ⟨rfl, rfl⟩; rw [HCL.out]
          go_wp2_with fail
          refine (find_any _ _ _ _ (by omega) hL3).mono ?_; rintro e w1 ⟨rfl, rfl⟩; rw [HCK.out]
          go_wp2_with fail
          refine (until_any _ _ _ _ (by omega)).mono ?_; rintro e w1 ⟨rfl, rfl⟩; rw [HCL.out]
          go_wp2_with fail
          refine (until_any _ _ _ _ (by omega)).mono ?_; rintro e w1 ⟨rfl, rfl⟩; rw [HCK.out]
          go_wp2_with fail
          refine (skip_any _ _ _ (by omega)).mono ?_; rintro e w1 ⟨rfl, rfl⟩; rw [HCL.out]
          go_wp2_with fail
          refine (skip_any _ _ _ (by omega)).mono ?_; rintro e w1 ⟨rfl, rfl⟩; rw [HCK.out]
          go_wp2_with fail
          refine (name_any _ _ _ (by omega)).mono ?_; rintro e w1 ⟨rfl, rfl⟩; rw [HCL.out]
          go_wp2_with fail
          refine (name_any _ _ _ (by omega)).mono ?_; rintro e w1 ⟨rfl, rfl⟩; rw [HCK.out]
          go_wp2_with fail
          refine ⟨⟨q + 1, by omega, by go_num, below_then (below_then HB.out HB.out.size hb2) (below_then HB.out HB.out.size hb2).size hb3, (HK.out.keep hb2).keep hb3, hL3⟩, by simp [intOf]; omega⟩
    · go_wp2_with fail
      refine (known_any _ hL1).mono ?_
      rintro e w1 ⟨rfl, hb⟩
      go_wp2_with fail
      go_ret
      exact ⟨rfl, below_then HB.out HB.out.size hb⟩
end Go.Proofs.Ytafinbcmelpieaa
