/- A list of entry: a block that leads to a pile, all of it B or younger: the methods, each with what it answers. -/
import Derived.Test.YtoehpladbdefkaaStkEntry
import Derived.StillTailTactics
namespace Go.Proofs.Ytoehpladbdefkaa
open Go.RowKit

def LB_entry (B : Nat) (w : World) (q : Nat) (l : List En) : Prop := ∃ p v, Blk w q 86 #[.pointer (some ⟨p, 0, none⟩)] (0, 0) ∧ Pile_entry w p v l ∧ ¬ foot p v q ∧ (∀ k, foot p v k → B ≤ k) ∧ B ≤ q ∧ B ≤ w.heap.size
theorem LB_entry.keep {B : Nat} {w w1 : World} {q : Nat} {l : List En} (h : LB_entry B w q l) (hb : Below w.heap.size w w1) : LB_entry B w1 q l := by
  obtain ⟨p, v, hq, hp, hn, hf, hBq, hB⟩ := h
  exact ⟨p, v, hq.keep hb, hp.keep hb, hn, hf, hBq, Nat.le_trans hB hb.size⟩
theorem LB_entry.le {B : Nat} {w : World} {q : Nat} {l : List En} (h : LB_entry B w q l) : B ≤ w.heap.size := let ⟨_, _, _, _, _, _, _, hB⟩ := h; hB
theorem LB_entry.len {B : Nat} {w : World} {q : Nat} {l : List En} (h : LB_entry B w q l) : l.length ≤ 9223372036854775807 := by
  obtain ⟨p, v, _, hp, _⟩ := h
  rcases hp.row.2 with ⟨_, h0⟩ | ⟨g, cap, cur, _, _, _, hc, hm, _⟩
  · rw [h0]; exact Nat.zero_le _
  · simp only [maxLen] at hm; omega
theorem LB_entry.turn {B : Nat} {w w1 : World} {q p : Nat} {v v' : Value} {l' : List En} (hq : Blk w q 86 #[.pointer (some ⟨p, 0, none⟩)] (0, 0)) (hn : ¬ foot p v q) (hf : ∀ k, foot p v k → B ≤ k) (hBq : B ≤ q) (hB : B ≤ w.heap.size)
    (hs : Pile_entry w1 p v' l') (hb : But (foot p v) w w1) (hg : Grown w v v') : LB_entry B w1 q l' ∧ Below B w w1 := by
  refine ⟨⟨p, v', hq.but hb hn, hs, fun hk => ?_, fun k hk => ?_, hBq, Nat.le_trans hB hb.size⟩, hb.below hf hB⟩
  · rcases hg.foot p hk with h | h
    · exact hn h
    · have := hq.lt; omega
  · rcases hg.foot p hk with h | h
    · exact hf k h
    · omega

/-- The same, its blocks among F. -/
def LF_entry (F : Nat → Prop) (w : World) (q : Nat) (l : List En) : Prop := ∃ p v, Blk w q 86 #[.pointer (some ⟨p, 0, none⟩)] (0, 0) ∧ Pile_entry w p v l ∧ ¬ foot p v q ∧ (∀ k, foot p v k → F k)
theorem LB_entry.free {B : Nat} {w : World} {q : Nat} {l : List En} (h : LB_entry B w q l) : ∃ F : Nat → Prop, LF_entry F w q l ∧ (∀ k, F k → B ≤ k ∧ k < w.heap.size) ∧ B ≤ q ∧ B ≤ w.heap.size := by
  obtain ⟨p, v, hq, hp, hn, hf, hBq, hB⟩ := h
  exact ⟨foot p v, ⟨p, v, hq, hp, hn, fun _ h => h⟩, fun k hk => ⟨hf k hk, hp.lt hk⟩, hBq, hB⟩
theorem LF_entry.shut {F : Nat → Prop} {B : Nat} {w : World} {q : Nat} {l : List En} (h : LF_entry F w q l) (hF : ∀ k, F k → B ≤ k) (hBq : B ≤ q) (hB : B ≤ w.heap.size) : LB_entry B w q l := by
  obtain ⟨p, v, hq, hp, hn, hf⟩ := h
  exact ⟨p, v, hq, hp, hn, fun k hk => hF k (hf k hk), hBq, hB⟩
theorem LF_entry.keep {F : Nat → Prop} {w w1 : World} {q : Nat} {l : List En} (h : LF_entry F w q l) (hb : Below w.heap.size w w1) : LF_entry F w1 q l := by
  obtain ⟨p, v, hq, hp, hn, hf⟩ := h
  exact ⟨p, v, hq.keep hb, hp.keep hb, hn, hf⟩
theorem LF_entry.len {F : Nat → Prop} {w : World} {q : Nat} {l : List En} (h : LF_entry F w q l) : l.length ≤ 9223372036854775807 := by
  obtain ⟨p, v, hq, hp, hn, _⟩ := h
  rcases hp.row.2 with ⟨_, h0⟩ | ⟨g, cap, cur, _, _, _, hc, hm, _⟩
  · rw [h0]; exact Nat.zero_le _
  · simp only [maxLen] at hm; omega

theorem newL_entry (B : Nat) (w : World) (hB : B ≤ w.heap.size) :
    Calls Try.prog 12 #[] w fun e w' => ∃ q, e = .returned (.pointer (some ⟨q, 0, none⟩)) ∧ LB_entry B w' q [] ∧ Below w.heap.size w w' := by
  go_enter Try.func12, Try.ntmps12
  go_wp2_with fail
  refine (new_entry w).mono ?_
  rintro e w1 ⟨rfl, hp, hb⟩
  go_wp2_with fail
  go_ret
  have hs := hb.size
  have hplt := hp.cell.lt
  refine ⟨w1.heap.size, rfl, ⟨w.heap.size, .slice none 0 0, Blk.new w1 _ _ _, hp.keep ((Below.refl _ _).alloc (Nat.le_refl _) _), ?_, ?_, by omega, ?_⟩, hb.alloc hs _⟩
  · rintro (hk | hk)
    · omega
    · cases hk
  · rintro k (hk | hk)
    · omega
    · cases hk
  · simp; omega

theorem lenL_entry (B : Nat) (w : World) (q : Nat) (l : List En) (h : LB_entry B w q l) :
    Calls Try.prog 18 #[.pointer (some ⟨q, 0, none⟩)] w fun e w' => e = .returned (.int .i64 (l.length : Int)) ∧ w = w' := by
  obtain ⟨p, v, hq, hp, _⟩ := h
  have h0 : w.cell? ⟨q, 0, none⟩ = some (.pointer (some ⟨p, 0, none⟩)) := hq.cell 0
  go_enter Try.func18, Try.ntmps18
  go_wp2_with fail
  refine (len_entry w p v l hp).mono ?_
  rintro e w1 ⟨rfl, rfl⟩
  go_wp2_with fail
  go_ret
  exact ⟨rfl, rfl⟩

set_option maxHeartbeats 1000000 in
set_option maxRecDepth 100000 in
theorem atL_entry (B : Nat) (w : World) (q : Nat) (l : List En) (i : Int) (h : LB_entry B w q l) :
    Calls Try.prog 19 #[.pointer (some ⟨q, 0, none⟩), .int .i64 i] w fun e w' => e = .returned (.tuple #[(getL l i).elim (.agg #[.bool false, .int .i64 0, .string ⟨#[]⟩, .slice none 0 0]) val_entry, .bool (getL l i).isSome]) ∧ Below w.heap.size w w' := by
  obtain ⟨p, v, hq, hp, _⟩ := h
  have hb0 : Below w.heap.size w (w.alloc (.cells #[.bool false, .int .i64 0, .string ⟨#[]⟩, .slice none 0 0] 33)) := (Below.refl _ _).alloc (Nat.le_refl _) _
  have h0 : (w.alloc (.cells #[.bool false, .int .i64 0, .string ⟨#[]⟩, .slice none 0 0] 33)).cell? ⟨q, 0, none⟩ = some (.pointer (some ⟨p, 0, none⟩)) := (hq.keep hb0).cell 0
  have hv0 : Blk (w.alloc (.cells #[.bool false, .int .i64 0, .string ⟨#[]⟩, .slice none 0 0] 33)) w.heap.size 33 (enc_entry zero_of_entry).toArray (0, 0) := Blk.new w _ _ _
  have HA := Lib.hid (at_entry _ p v l i (hp.keep hb0))
  have HV := Lib.hid hv0
  clear hq hp hv0
  go_enter Try.func19, Try.ntmps19
  go_wp2_with fail
  refine HA.out.mono ?_
  rintro e w1 ⟨rfl, hb1⟩
  obtain ⟨hzc, hzf⟩ := var_entry (HV.out.keep hb1)
  have z0 := hzc 0 _ rfl; have z1 := hzc 1 _ rfl; have z2 := hzc 2 _ rfl; have z3 := hzc 3 _ rfl
  have hb2 := hb0.trans (hb1.mono hb0.size)
  clear hzc hb1
  rcases hq : getL l i with _ | x
  · simp only [Option.isSome_none, Option.elim]
    go_wp2_with fail
    refine bodyPost_ret (v := .tuple #[.agg #[.bool false, .int .i64 0, .string ⟨#[]⟩, .slice none 0 0], .bool false]) (by simp [results, Try.results19, go_sem, z0, z1, z2, z3]) rfl ⟨by rw [hq]; rfl, ?_⟩
    exact (((hb2.setCell (Nat.le_refl _) _).setCell (Nat.le_refl _) _).setCell (Nat.le_refl _) _).setCell (Nat.le_refl _) _
  · simp only [Option.isSome_some, Option.elim, val_entry]
    go_wp2_with fail
    refine bodyPost_ret (v := .tuple #[val_entry x, .bool true]) (by simp [results, Try.results19, go_sem, val_entry, z0, z1, z2, z3]) rfl ⟨by rw [hq]; rfl, ?_⟩
    exact (((hb2.setCell (Nat.le_refl _) _).setCell (Nat.le_refl _) _).setCell (Nat.le_refl _) _).setCell (Nat.le_refl _) _
end Go.Proofs.Ytoehpladbdefkaa
