/- refs.Number: the character of a number. -/
import Derived.Test.YtdjeajbinpgpiaaElder
import Derived.Test.YtdjeajbinpgpiaaRefP
namespace Go.Proofs.Ytdjeajbinpgpiaa
open Go.RowKit

theorem wrap_small32 (n : Nat) (h : n ≤ 1114112) : wrap32 (n : Int) = n := by unfold wrap32; omega
theorem elder_blk (w1 : World) : Blk (w1.alloc (.cells elderV 108)) w1.heap.size 108 elderV (0, 0) := Blk.new _ _ _ _
theorem S_utfN (n : Nat) : S (utfN n) = Utf8.encode (n : Int) := S_B _
theorem numberS_bad {n : Nat} (h : numberB n = true) : numberS n = badL := by unfold numberS; rw [if_pos h]
theorem numberS_good {n : Nat} (h : numberB n = false) : numberS n = if elderN n = 0 then utfN n else utfN (elderN n) := by unfold numberS; rw [if_neg (by rw [h]; decide)]
theorem S_badL : S badL = ⟨#[239, 191, 189]⟩ := rfl

set_option maxHeartbeats 1000000 in
set_option maxRecDepth 100000 in
theorem number_bad (n : Nat) (h : n = 0 ∨ 1114111 < n ∨ (55296 ≤ n ∧ n ≤ 57343)) (hn : n ≤ 1114112) (w : World) :
    Calls Try.prog 82 #[.int .i64 (n : Int)] w fun e w' => e = .returned (.string (S (numberS n))) ∧ Below w.heap.size w w' := by
  have hb : numberB n = true := by
    unfold numberB
    rcases h with h | h | ⟨h, h'⟩ <;> simp [h]
    right; exact h'
  rw [numberS_bad hb, S_badL]
  clear hb
  rcases h with rfl | h | ⟨h, h'⟩
  all_goals
    go_enter Try.func82, Try.ntmps82
    go_wp2_with fail
    go_ret
    exact ⟨rfl, Below.refl _ _⟩
set_option maxHeartbeats 4000000 in
set_option maxRecDepth 100000 in
theorem number_plain (n : Nat) (m : Int) (hm : m = n) (h0 : 0 < m) (h1 : m ≤ 1114111) (h2 : m < 128 ∨ (159 < m ∧ m < 55296) ∨ 57343 < m) (w : World) :
    Calls Try.prog 82 #[.int .i64 m] w fun e w' => e = .returned (.string (S (numberS n))) ∧ Below w.heap.size w w' := by
  have hb : numberB n = false := by unfold numberB; simp; omega
  rw [numberS_good hb, show elderN n = 0 by unfold elderN; rw [if_neg (by omega)], if_pos rfl, S_utfN, ← hm]
  clear hb
  have hw : wrap32 m = m := by unfold wrap32; omega
  have t1 : decide (1114111 < m) = false := by simp; omega
  have t2 : decide (m ≤ 0) = false := by simp; omega
  clear hm
  rcases h2 with h2 | ⟨h2, h3⟩ | h2
  all_goals
    go_enter Try.func82, Try.ntmps82
    go_wp2_with fail
    refine (elder_any _).mono ?_
    rintro e w1 ⟨rfl, b1⟩
    have HB := Lib.hid (b1.alloc b1.size (.cells elderV 108))
    clear b1
    go_wp2_with (refine wpList_store_row (o := ⟨_, .store 108 _ _, _, _, _, _⟩) rfl _ _ _ rfl _ elderV (by rfl) (by rfl) _ _ (heap_alloc_last w1 _) (by kernel_rfl) (by kernel_rfl) (by kernel_rfl) ?_; rw [World.setRow_alloc_new])
    go_ret
    exact ⟨rfl, HB.out⟩
set_option maxHeartbeats 1000000 in
set_option maxRecDepth 100000 in
theorem number_elder (k : Nat) (hk : k < 32) (m : Int) (h1 : 128 ≤ m) (_h2 : m ≤ 159) (hm : m - 128 = (k : Int)) (w : World) :
    Calls Try.prog 82 #[.int .i64 m] w fun e w' => e = .returned (.string (S (numberS (k + 128)))) ∧ Below w.heap.size w w' := by
  have hb : numberB (k + 128) = false := by unfold numberB; simp; omega
  have he : elderN (k + 128) = elderT.getD k 0 := by unfold elderN; rw [if_pos (by omega)]; rfl
  rw [numberS_good hb, he]
  have hw : wrap32 m = m := by unfold wrap32; omega
  have HE := Lib.hid (elderV_at k hk)
  generalize elderT.getD k 0 = x at *
  clear hb he
  by_cases hx : x = 0
  · rw [if_pos hx, S_utfN, show ((k + 128 : Nat) : Int) = m by omega]
    have d0 : ((x : Int) != 0) = false := by rw [hx]; rfl
    clear hx
    go_enter Try.func82, Try.ntmps82
    go_wp2_with fail
    refine (elder_any _).mono ?_
    rintro e w1 ⟨rfl, b1⟩
    have HB := Lib.hid (b1.alloc b1.size (.cells elderV 108))
    have c0 := ((elder_blk w1).cell k).trans HE.out
    clear b1
    go_wp2_with (refine wpList_store_row (o := ⟨_, .store 108 _ _, _, _, _, _⟩) rfl _ _ _ rfl _ elderV (by rfl) (by rfl) _ _ (heap_alloc_last w1 _) (by kernel_rfl) (by kernel_rfl) (by kernel_rfl) ?_; rw [World.setRow_alloc_new])
    go_ret
    exact ⟨rfl, HB.out⟩
  · rw [if_neg hx, S_utfN]
    have d0 : ((x : Int) != 0) = true := by rw [bne_iff_ne]; omega
    clear hx
    go_enter Try.func82, Try.ntmps82
    go_wp2_with fail
    refine (elder_any _).mono ?_
    rintro e w1 ⟨rfl, b1⟩
    have HB := Lib.hid (b1.alloc b1.size (.cells elderV 108))
    have c0 := ((elder_blk w1).cell k).trans HE.out
    clear b1
    go_wp2_with (refine wpList_store_row (o := ⟨_, .store 108 _ _, _, _, _, _⟩) rfl _ _ _ rfl _ elderV (by rfl) (by rfl) _ _ (heap_alloc_last w1 _) (by kernel_rfl) (by kernel_rfl) (by kernel_rfl) ?_; rw [World.setRow_alloc_new])
    go_ret
    exact ⟨rfl, HB.out⟩
theorem number_any (n : Nat) (hn : n ≤ 1114112) (w : World) :
    Calls Try.prog 82 #[.int .i64 (n : Int)] w fun e w' => e = .returned (.string (S (numberS n))) ∧ Below w.heap.size w w' := by
  by_cases h : n = 0 ∨ 1114111 < n ∨ (55296 ≤ n ∧ n ≤ 57343)
  · exact number_bad n h hn w
  · by_cases h2 : 128 ≤ n ∧ n ≤ 159
    · obtain ⟨k, rfl⟩ : ∃ k, n = k + 128 := ⟨n - 128, by omega⟩
      exact number_elder k (by omega) _ (by omega) (by omega) (by omega) w
    · exact number_plain n _ rfl (by omega) (by omega) (by omega) w
end Go.Proofs.Ytdjeajbinpgpiaa
