/- The reference's chapters 5 and 10: Number, digits. -/
import Derived.Test.YtdjeajbinpgpiaaGreatJLexerTells21
import Derived.Test.YtdjeajbinpgpiaaGreatJLexerTells7
import Derived.Test.YtdjeajbinpgpiaaGreatJLexerTellsTabR
namespace Go.Proofs.YtdjeajbinpgpiaaGreat
open Go.RowKit

set_option maxHeartbeats 1000000 in
set_option maxRecDepth 100000 in
theorem rnumber_bad (n : Nat) (h : n = 0 ∨ 1114111 < n ∨ (55296 ≤ n ∧ n ≤ 57343)) (w : World) :
    Calls Tryz.prog 82 #[.int .i64 (n : Int)] w fun e w' => e = .returned (.string (S (numberS n))) ∧ Below w.heap.size w w' := by
  have hb : numberB n = true := by
    unfold numberB
    rcases h with h | h | ⟨h, h'⟩ <;> simp [h]
    right; exact h'
  rw [numberS_bad hb, S_badL]
  clear hb
  rcases h with rfl | h | ⟨h, h'⟩
  all_goals
    go_enter Tryz.func82, Tryz.ntmps82
    go_wp2_with fail
    go_ret
    exact ⟨rfl, Below.refl _ _⟩
set_option maxHeartbeats 4000000 in
set_option maxRecDepth 100000 in
theorem rnumber_plain (n : Nat) (m : Int) (hm : m = n) (h0 : 0 < m) (h1 : m ≤ 1114111) (h2 : m < 128 ∨ (159 < m ∧ m < 55296) ∨ 57343 < m) (w : World) :
    Calls Tryz.prog 82 #[.int .i64 m] w fun e w' => e = .returned (.string (S (numberS n))) ∧ Below w.heap.size w w' := by
  have hb : numberB n = false := by unfold numberB; simp; omega
  rw [numberS_good hb, show elderN n = 0 by unfold elderN; rw [if_neg (by omega)], if_pos rfl, S_utfN, ← hm]
  clear hb
  have hw : wrap32 m = m := by unfold wrap32; omega
  have t1 : decide (1114111 < m) = false := by simp; omega
  have t2 : decide (m ≤ 0) = false := by simp; omega
  clear hm
  rcases h2 with h2 | ⟨h2, h3⟩ | h2
  all_goals
    go_enter Tryz.func82, Tryz.ntmps82
    go_wp2_with fail
    go_ret
    exact ⟨rfl, Below.refl _ _⟩
set_option maxHeartbeats 2000000 in
set_option maxRecDepth 100000 in
theorem rnumber_elder (k : Nat) (hk : k < 32) (m : Int) (h1 : 128 ≤ m) (h2 : m ≤ 159) (hm : m - 128 = (k : Int)) (w : World) :
    Calls Tryz.prog 82 #[.int .i64 m] w fun e w' => e = .returned (.string (S (numberS (k + 128)))) ∧ Below w.heap.size w w' := by
  have hb : numberB (k + 128) = false := by unfold numberB; simp; omega
  have he : elderN (k + 128) = elderT.getD k 0 := by unfold elderN; rw [if_pos (by omega)]; rfl
  rw [numberS_good hb, he]
  have hw : wrap32 m = m := by unfold wrap32; omega
  have HE := Lib.hid (elderV_at k hk)
  have HBl := Lib.hid (Blk.new w 21 elderV (0, 0))
  have HB := Lib.hid ((Below.refl w.heap.size w).alloc (Nat.le_refl _) (.cells elderV 21))
  have c0 : (w.alloc (.cells elderV 21)).cell? ⟨w.heap.size, k, none⟩ = _ := (HBl.out.cell k).trans HE.out
  generalize elderT.getD k 0 = x at *
  clear hb he
  by_cases hx : x = 0
  · rw [if_pos hx, S_utfN, show ((k + 128 : Nat) : Int) = m by omega]
    have d0 : ((x : Int) != 0) = false := by rw [hx]; rfl
    clear hx
    go_enter Tryz.func82, Tryz.ntmps82
    go_wp2_with (refine wpList_buildAt (o := ⟨_, .buildSlice _ _ _, _, _, _, _⟩) rfl _ 21 _ _ rfl elderV 1 (.int .i32 0) Tryz.underlying101 (by kernel_rfl) (by decide) (by decide) (by kernel_rfl) ?_)
    go_ret
    exact ⟨rfl, HB.out⟩
  · rw [if_neg hx, S_utfN]
    have d0 : ((x : Int) != 0) = true := by rw [bne_iff_ne]; omega
    clear hx
    go_enter Tryz.func82, Tryz.ntmps82
    go_wp2_with (refine wpList_buildAt (o := ⟨_, .buildSlice _ _ _, _, _, _, _⟩) rfl _ 21 _ _ rfl elderV 1 (.int .i32 0) Tryz.underlying101 (by kernel_rfl) (by decide) (by decide) (by kernel_rfl) ?_)
    go_ret
    exact ⟨rfl, HB.out⟩
theorem rnumber_any (n : Nat) (w : World) :
    Calls Tryz.prog 82 #[.int .i64 (n : Int)] w fun e w' => e = .returned (.string (S (numberS n))) ∧ Below w.heap.size w w' := by
  by_cases h : n = 0 ∨ 1114111 < n ∨ (55296 ≤ n ∧ n ≤ 57343)
  · exact rnumber_bad n h w
  · by_cases h2 : 128 ≤ n ∧ n ≤ 159
    · obtain ⟨k, rfl⟩ : ∃ k, n = k + 128 := ⟨n - 128, by omega⟩
      exact rnumber_elder k (by omega) _ (by omega) (by omega) (by omega) w
    · exact rnumber_plain n _ rfl (by omega) (by omega) (by omega) w
end Go.Proofs.YtdjeajbinpgpiaaGreat
