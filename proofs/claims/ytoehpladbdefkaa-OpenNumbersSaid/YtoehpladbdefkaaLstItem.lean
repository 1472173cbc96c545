/- A list of item: a block that leads to a pile, all of it B or younger: the methods, each with what it answers. -/
import Derived.Test.YtoehpladbdefkaaStkItem
import Derived.StillTailTactics
namespace Go.Proofs.Ytoehpladbdefkaa
open Go.RowKit

def LB_item (B : Nat) (w : World) (q : Nat) (l : List It) : Prop := ∃ p v, Blk w q 105 #[.pointer (some ⟨p, 0, none⟩)] (0, 0) ∧ Pile_item w p v l ∧ ¬ foot p v q ∧ (∀ k, foot p v k → B ≤ k) ∧ B ≤ q ∧ B ≤ w.heap.size
theorem LB_item.keep {B : Nat} {w w1 : World} {q : Nat} {l : List It} (h : LB_item B w q l) (hb : Below w.heap.size w w1) : LB_item B w1 q l := by
  obtain ⟨p, v, hq, hp, hn, hf, hBq, hB⟩ := h
  exact ⟨p, v, hq.keep hb, hp.keep hb, hn, hf, hBq, Nat.le_trans hB hb.size⟩
theorem LB_item.le {B : Nat} {w : World} {q : Nat} {l : List It} (h : LB_item B w q l) : B ≤ w.heap.size := let ⟨_, _, _, _, _, _, _, hB⟩ := h; hB
theorem LB_item.len {B : Nat} {w : World} {q : Nat} {l : List It} (h : LB_item B w q l) : l.length ≤ 9223372036854775807 := by
  obtain ⟨p, v, _, hp, _⟩ := h
  rcases hp.row.2 with ⟨_, h0⟩ | ⟨g, cap, cur, _, _, _, hc, hm, _⟩
  · rw [h0]; exact Nat.zero_le _
  · simp only [maxLen] at hm; omega
theorem LB_item.turn {B : Nat} {w w1 : World} {q p : Nat} {v v' : Value} {l' : List It} (hq : Blk w q 105 #[.pointer (some ⟨p, 0, none⟩)] (0, 0)) (hn : ¬ foot p v q) (hf : ∀ k, foot p v k → B ≤ k) (hBq : B ≤ q) (hB : B ≤ w.heap.size)
    (hs : Pile_item w1 p v' l') (hb : But (foot p v) w w1) (hg : Grown w v v') : LB_item B w1 q l' ∧ Below B w w1 := by
  refine ⟨⟨p, v', hq.but hb hn, hs, fun hk => ?_, fun k hk => ?_, hBq, Nat.le_trans hB hb.size⟩, hb.below hf hB⟩
  · rcases hg.foot p hk with h | h
    · exact hn h
    · have := hq.lt; omega
  · rcases hg.foot p hk with h | h
    · exact hf k h
    · omega

/-- The same, its blocks among F. -/
def LF_item (F : Nat → Prop) (w : World) (q : Nat) (l : List It) : Prop := ∃ p v, Blk w q 105 #[.pointer (some ⟨p, 0, none⟩)] (0, 0) ∧ Pile_item w p v l ∧ ¬ foot p v q ∧ (∀ k, foot p v k → F k)
theorem LB_item.free {B : Nat} {w : World} {q : Nat} {l : List It} (h : LB_item B w q l) : ∃ F : Nat → Prop, LF_item F w q l ∧ (∀ k, F k → B ≤ k ∧ k < w.heap.size) ∧ B ≤ q ∧ B ≤ w.heap.size := by
  obtain ⟨p, v, hq, hp, hn, hf, hBq, hB⟩ := h
  exact ⟨foot p v, ⟨p, v, hq, hp, hn, fun _ h => h⟩, fun k hk => ⟨hf k hk, hp.lt hk⟩, hBq, hB⟩
theorem LF_item.shut {F : Nat → Prop} {B : Nat} {w : World} {q : Nat} {l : List It} (h : LF_item F w q l) (hF : ∀ k, F k → B ≤ k) (hBq : B ≤ q) (hB : B ≤ w.heap.size) : LB_item B w q l := by
  obtain ⟨p, v, hq, hp, hn, hf⟩ := h
  exact ⟨p, v, hq, hp, hn, fun k hk => hF k (hf k hk), hBq, hB⟩
theorem LF_item.keep {F : Nat → Prop} {w w1 : World} {q : Nat} {l : List It} (h : LF_item F w q l) (hb : Below w.heap.size w w1) : LF_item F w1 q l := by
  obtain ⟨p, v, hq, hp, hn, hf⟩ := h
  exact ⟨p, v, hq.keep hb, hp.keep hb, hn, hf⟩
theorem LF_item.len {F : Nat → Prop} {w : World} {q : Nat} {l : List It} (h : LF_item F w q l) : l.length ≤ 9223372036854775807 := by
  obtain ⟨p, v, hq, hp, hn, _⟩ := h
  rcases hp.row.2 with ⟨_, h0⟩ | ⟨g, cap, cur, _, _, _, hc, hm, _⟩
  · rw [h0]; exact Nat.zero_le _
  · simp only [maxLen] at hm; omega

theorem newL_item (B : Nat) (w : World) (hB : B ≤ w.heap.size) :
    Calls Try.prog 36 #[] w fun e w' => ∃ q, e = .returned (.pointer (some ⟨q, 0, none⟩)) ∧ LB_item B w' q [] ∧ Below w.heap.size w w' := by
  go_enter Try.func36, Try.ntmps36
  go_wp2_with fail
  refine (new_item w).mono ?_
  rintro e w1 ⟨rfl, hp, hb⟩
  go_wp2_with fail
  go_ret
  have hs := hb.size
  have hplt := hp.cell.lt
  refine ⟨w1.heap.size, rfl, ⟨w.heap.size, .slice none 0 0, Blk.new w1 _ _ _, hp.keep ((Below.refl _ _).alloc (Nat.le_refl _) _), ?_, ?_, by omega, ?_⟩, hb.alloc hs _⟩
  · rintro (hk | hk)
    · omega
    · cases hk
  · rintro k (hk | hk)
    · omega
    · cases hk
  · simp; omega

theorem lenL_item (B : Nat) (w : World) (q : Nat) (l : List It) (h : LB_item B w q l) :
    Calls Try.prog 45 #[.pointer (some ⟨q, 0, none⟩)] w fun e w' => e = .returned (.int .i64 (l.length : Int)) ∧ w = w' := by
  obtain ⟨p, v, hq, hp, _⟩ := h
  have h0 : w.cell? ⟨q, 0, none⟩ = some (.pointer (some ⟨p, 0, none⟩)) := hq.cell 0
  go_enter Try.func45, Try.ntmps45
  go_wp2_with fail
  refine (len_item w p v l hp).mono ?_
  rintro e w1 ⟨rfl, rfl⟩
  go_wp2_with fail
  go_ret
  exact ⟨rfl, rfl⟩

set_option maxHeartbeats 1000000 in
set_option maxRecDepth 100000 in
theorem atL_item (B : Nat) (w : World) (q : Nat) (l : List It) (i : Int) (h : LB_item B w q l) :
    Calls Try.prog 46 #[.pointer (some ⟨q, 0, none⟩), .int .i64 i] w fun e w' => e = .returned (.tuple #[(getL l i).elim (.agg #[.int .i64 0, .int .i64 0, .string ⟨#[]⟩, .slice none 0 0]) val_item, .bool (getL l i).isSome]) ∧ Below w.heap.size w w' := by
  obtain ⟨p, v, hq, hp, _⟩ := h
  have hb0 : Below w.heap.size w (w.alloc (.cells #[.int .i64 0, .int .i64 0, .string ⟨#[]⟩, .slice none 0 0] 50)) := (Below.refl _ _).alloc (Nat.le_refl _) _
  have h0 : (w.alloc (.cells #[.int .i64 0, .int .i64 0, .string ⟨#[]⟩, .slice none 0 0] 50)).cell? ⟨q, 0, none⟩ = some (.pointer (some ⟨p, 0, none⟩)) := (hq.keep hb0).cell 0
  have hv0 : Blk (w.alloc (.cells #[.int .i64 0, .int .i64 0, .string ⟨#[]⟩, .slice none 0 0] 50)) w.heap.size 50 (enc_item zero_of_item).toArray (0, 0) := Blk.new w _ _ _
  have HA := Lib.hid (at_item _ p v l i (hp.keep hb0))
  have HV := Lib.hid hv0
  clear hq hp hv0
  go_enter Try.func46, Try.ntmps46
  go_wp2_with fail
  refine HA.out.mono ?_
  rintro e w1 ⟨rfl, hb1⟩
  obtain ⟨hzc, hzf⟩ := var_item (HV.out.keep hb1)
  have z0 := hzc 0 _ rfl; have z1 := hzc 1 _ rfl; have z2 := hzc 2 _ rfl; have z3 := hzc 3 _ rfl
  have hb2 := hb0.trans (hb1.mono hb0.size)
  clear hzc hb1
  rcases hq : getL l i with _ | x
  · simp only [Option.isSome_none, Option.elim]
    go_wp2_with fail
    refine bodyPost_ret (v := .tuple #[.agg #[.int .i64 0, .int .i64 0, .string ⟨#[]⟩, .slice none 0 0], .bool false]) (by simp [results, Try.results46, go_sem, z0, z1, z2, z3]) rfl ⟨by rw [hq]; rfl, ?_⟩
    exact (((hb2.setCell (Nat.le_refl _) _).setCell (Nat.le_refl _) _).setCell (Nat.le_refl _) _).setCell (Nat.le_refl _) _
  · simp only [Option.isSome_some, Option.elim, val_item]
    go_wp2_with fail
    refine bodyPost_ret (v := .tuple #[val_item x, .bool true]) (by simp [results, Try.results46, go_sem, val_item, z0, z1, z2, z3]) rfl ⟨by rw [hq]; rfl, ?_⟩
    exact (((hb2.setCell (Nat.le_refl _) _).setCell (Nat.le_refl _) _).setCell (Nat.le_refl _) _).setCell (Nat.le_refl _) _

set_option maxHeartbeats 1000000 in
set_option maxRecDepth 100000 in
theorem pushF_item (F : Nat → Prop) (w : World) (q : Nat) (l : List It) (x : It) (h : LF_item F w q l) (hsz : (l.length + 1) * 56 ≤ 140737488355328) :
    Calls Try.prog 37 #[.pointer (some ⟨q, 0, none⟩), val_item x] w fun e w' => e = .returned (.tuple #[]) ∧ LF_item (fun k => F k ∨ w.heap.size ≤ k) w' q (l ++ [x]) ∧ But F w w' := by
  obtain ⟨p, v, hq, hp, hn, hf⟩ := h
  have hb0 : Below w.heap.size w (w.alloc (.cells (enc_item x).toArray 50)) := (Below.refl _ _).alloc (Nat.le_refl _) _
  have hb1 : Below w.heap.size w (w.alloc (.cells (enc_item x).toArray 50)).drew := hb0.drew
  have h0 : (w.alloc (.cells (enc_item x).toArray 50)).cell? ⟨q, 0, none⟩ = some (.pointer (some ⟨p, 0, none⟩)) := (hq.keep hb0).cell 0
  obtain ⟨hvc, hvf⟩ := var_item (x := x) (Blk.new w 50 (enc_item x).toArray (0, 0))
  have c0 := hvc 0 _ rfl; have c1 := hvc 1 _ rfl; have c2 := hvc 2 _ rfl; have c3 := hvc 3 _ rfl
  have HA := Lib.hid (push_item _ p v l x (hp.keep hb1) hsz)
  have HQ := Lib.hid hq
  have HN := Lib.hid hn
  have HF := Lib.hid hf
  have HB := Lib.hid hb1
  clear hvc hvf hq hp hn hf hb0 hb1
  obtain ⟨w0, hw0⟩ : ∃ w0, w0 = w.alloc (.cells (enc_item x).toArray 50) := ⟨_, rfl⟩
  rw [← hw0] at h0 c0 c1 c2 c3 HA HB
  unfold val_item
  go_enter Try.func37, Try.ntmps37
  go_wp2_with fail
  rw [show w.alloc (.cells #[.int .i64 x.h, .int .i64 x.ns, .string x.name, .slice x.a x.n x.c] 50) = w0 from hw0.symm]
  clear hw0
  go_still_tail 5, (by kernel_rfl)
  go_wp2_with fail
  refine HA.out.mono ?_
  rintro e w1 ⟨v1, rfl, hs1, hb1, hg1⟩
  go_wp2_with fail
  go_end0
  have hg : Grown w v v1 := by
    rcases hg1 with e | ⟨k, hk, e⟩
    · exact .inl e
    · exact .inr ⟨k, Nat.le_trans HB.out.size hk, e⟩
  have hbt : But (foot p v) w w1 := (But.of_below (S := foot p v) HB.out).trans hb1 (fun k hk => .inl hk)
  refine ⟨rfl, ⟨p, v1, HQ.out.but hbt HN.out, hs1, fun hk => ?_, fun k hk => ?_⟩, hbt.mono (fun k hk => .inl (HF.out k hk))⟩
  · rcases hg.foot p hk with h | h
    · exact HN.out h
    · have := HQ.out.lt; omega
  · rcases hg.foot p hk with h | h
    · exact .inl (HF.out k h)
    · exact .inr h
theorem pushL_item (B : Nat) (w : World) (q : Nat) (l : List It) (x : It) (h : LB_item B w q l) (hsz : (l.length + 1) * 56 ≤ 140737488355328) :
    Calls Try.prog 37 #[.pointer (some ⟨q, 0, none⟩), val_item x] w fun e w' => e = .returned (.tuple #[]) ∧ LB_item B w' q (l ++ [x]) ∧ Below B w w' := by
  obtain ⟨F, hF, hb, hBq, hB⟩ := h.free
  refine (pushF_item F w q l x hF hsz).mono ?_
  rintro e w' ⟨he, h1, h2⟩
  refine ⟨he, h1.shut (fun k hk => ?_) hBq (Nat.le_trans hB h2.size), h2.below (fun k hk => (hb k hk).1) hB⟩
  rcases hk with hk | hk
  · exact (hb k hk).1
  · exact Nat.le_trans hB hk

set_option maxHeartbeats 1000000 in
set_option maxRecDepth 100000 in
theorem topF_item (F : Nat → Prop) (w : World) (q : Nat) (l : List It) (h : LF_item F w q l) :
    Calls Try.prog 48 #[.pointer (some ⟨q, 0, none⟩)] w fun e w' => e = .returned (.tuple #[(l.getLast?).elim (.agg #[.int .i64 0, .int .i64 0, .string ⟨#[]⟩, .slice none 0 0]) val_item, .bool (l.getLast?).isSome]) ∧ Below w.heap.size w w' := by
  have hlen := h.len
  obtain ⟨p, v, hq, hp, _⟩ := h
  have hb0 : Below w.heap.size w (w.alloc (.cells #[.int .i64 0, .int .i64 0, .string ⟨#[]⟩, .slice none 0 0] 50)) := (Below.refl _ _).alloc (Nat.le_refl _) _
  have h0 : (w.alloc (.cells #[.int .i64 0, .int .i64 0, .string ⟨#[]⟩, .slice none 0 0] 50)).cell? ⟨q, 0, none⟩ = some (.pointer (some ⟨p, 0, none⟩)) := (hq.keep hb0).cell 0
  have hv0 : Blk (w.alloc (.cells #[.int .i64 0, .int .i64 0, .string ⟨#[]⟩, .slice none 0 0] 50)) w.heap.size 50 (enc_item zero_of_item).toArray (0, 0) := Blk.new w _ _ _
  have HA := Lib.hid (top_item _ p v l hlen (hp.keep hb0))
  have HV := Lib.hid hv0
  clear hq hp hv0
  go_enter Try.func48, Try.ntmps48
  go_wp2_with fail
  refine HA.out.mono ?_
  rintro e w1 ⟨rfl, hb1⟩
  obtain ⟨hzc, hzf⟩ := var_item (HV.out.keep hb1)
  have z0 := hzc 0 _ rfl; have z1 := hzc 1 _ rfl; have z2 := hzc 2 _ rfl; have z3 := hzc 3 _ rfl
  have hb2 := hb0.trans (hb1.mono hb0.size)
  clear hzc hb1
  rcases hq : l.getLast? with _ | x
  · simp only [Option.isSome_none, Option.elim]
    go_wp2_with fail
    refine bodyPost_ret (v := .tuple #[.agg #[.int .i64 0, .int .i64 0, .string ⟨#[]⟩, .slice none 0 0], .bool false]) (by simp [results, Try.results48, go_sem, z0, z1, z2, z3]) rfl ⟨by rw [hq]; rfl, ?_⟩
    exact (((hb2.setCell (Nat.le_refl _) _).setCell (Nat.le_refl _) _).setCell (Nat.le_refl _) _).setCell (Nat.le_refl _) _
  · simp only [Option.isSome_some, Option.elim, val_item]
    go_wp2_with fail
    refine bodyPost_ret (v := .tuple #[val_item x, .bool true]) (by simp [results, Try.results48, go_sem, val_item, z0, z1, z2, z3]) rfl ⟨by rw [hq]; rfl, ?_⟩
    exact (((hb2.setCell (Nat.le_refl _) _).setCell (Nat.le_refl _) _).setCell (Nat.le_refl _) _).setCell (Nat.le_refl _) _

set_option maxHeartbeats 1000000 in
set_option maxRecDepth 100000 in
theorem popF_item (F : Nat → Prop) (w : World) (q : Nat) (l : List It) (x : It) (h : LF_item F w q (l ++ [x])) :
    Calls Try.prog 81 #[.pointer (some ⟨q, 0, none⟩)] w fun e w' => e = .returned (.tuple #[val_item x, .bool true]) ∧ LF_item F w' q l ∧ But F w w' := by
  obtain ⟨p, v, hq, hp, hn, hf⟩ := h
  have hb0 : Below w.heap.size w (w.alloc (.cells #[.int .i64 0, .int .i64 0, .string ⟨#[]⟩, .slice none 0 0] 50)) := (Below.refl _ _).alloc (Nat.le_refl _) _
  have h0 : (w.alloc (.cells #[.int .i64 0, .int .i64 0, .string ⟨#[]⟩, .slice none 0 0] 50)).cell? ⟨q, 0, none⟩ = some (.pointer (some ⟨p, 0, none⟩)) := (hq.keep hb0).cell 0
  have hv0 : Blk (w.alloc (.cells #[.int .i64 0, .int .i64 0, .string ⟨#[]⟩, .slice none 0 0] 50)) w.heap.size 50 (enc_item zero_of_item).toArray (0, 0) := Blk.new w _ _ _
  have hnf : ¬ foot p v w.heap.size := fun hk => by have := hp.lt hk; omega
  have HA := Lib.hid (pop_some_item _ p v l x (hp.keep hb0))
  have HV := Lib.hid hv0
  have HQ := Lib.hid hq
  have HNF := Lib.hid hnf
  have HN := Lib.hid hn
  have HF := Lib.hid hf
  clear hq hp hv0 hnf hn hf
  go_enter Try.func81, Try.ntmps81
  go_wp2_with fail
  refine HA.out.mono ?_
  rintro e w1 ⟨v1, rfl, hs1, hb1, hv1⟩
  obtain ⟨hzc, hzf⟩ := var_item (HV.out.but hb1 HNF.out)
  have z0 := hzc 0 _ rfl; have z1 := hzc 1 _ rfl; have z2 := hzc 2 _ rfl; have z3 := hzc 3 _ rfl
  have hb2 : But (foot p v) w w1 := (But.of_below (S := foot p v) hb0).trans hb1 (fun k hk => .inl hk)
  have hfo : ∀ k, foot p v1 k → ¬ k = w.heap.size := fun k hk e => HNF.out (by
    subst e
    rcases hk with hk | hk
    · exact .inl hk
    · exact .inr (hv1 ▸ hk))
  have HS := Lib.hid hs1
  have HB2 := Lib.hid hb2
  have HFO := Lib.hid hfo
  have HV1 := Lib.hid hv1
  clear hzc hs1 hb1 hb2 hfo hv1
  simp only [val_item]
  go_wp2_with fail
  refine bodyPost_ret (v := .tuple #[val_item x, .bool true]) (by simp [results, Try.results81, go_sem, val_item, z0, z1, z2, z3]) rfl ⟨rfl, ?_⟩
  have hbt : ∀ W, But (fun k => k = w.heap.size) w1 W → But (foot p v) w W := fun W hW => HB2.out.trans hW (fun k hk => .inr (by omega))
  have hfe : ∀ k, foot p v1 k → foot p v k := fun k hk => by
    rcases hk with hk | hk
    · exact .inl hk
    · exact .inr (HV1.out ▸ hk)
  exact ⟨⟨p, v1, HQ.out.but (hbt _ (set4_but _ _ _ _ _ _)) HN.out, HS.out.but (set4_but _ _ _ _ _ _) HFO.out, fun hk => HN.out (hfe _ hk), fun k hk => HF.out k (hfe k hk)⟩, (hbt _ (set4_but _ _ _ _ _ _)).mono (fun k hk => .inl (HF.out k hk))⟩
theorem popL_item (B : Nat) (w : World) (q : Nat) (l : List It) (x : It) (h : LB_item B w q (l ++ [x])) :
    Calls Try.prog 81 #[.pointer (some ⟨q, 0, none⟩)] w fun e w' => e = .returned (.tuple #[val_item x, .bool true]) ∧ LB_item B w' q l ∧ Below B w w' := by
  obtain ⟨F, hF, hb, hBq, hB⟩ := h.free
  refine (popF_item F w q l x hF).mono ?_
  rintro e w' ⟨he, h1, h2⟩
  exact ⟨he, h1.shut (fun k hk => (hb k hk).1) hBq (Nat.le_trans hB h2.size), h2.below (fun k hk => (hb k hk).1) hB⟩

set_option maxHeartbeats 1000000 in
set_option maxRecDepth 100000 in
theorem popF_none_item (F : Nat → Prop) (w : World) (q : Nat) (h : LF_item F w q []) :
    Calls Try.prog 81 #[.pointer (some ⟨q, 0, none⟩)] w fun e w' => e = .returned (.tuple #[.agg #[.int .i64 0, .int .i64 0, .string ⟨#[]⟩, .slice none 0 0], .bool false]) ∧ Below w.heap.size w w' := by
  obtain ⟨p, v, hq, hp, _⟩ := h
  have hb0 : Below w.heap.size w (w.alloc (.cells #[.int .i64 0, .int .i64 0, .string ⟨#[]⟩, .slice none 0 0] 50)) := (Below.refl _ _).alloc (Nat.le_refl _) _
  have h0 : (w.alloc (.cells #[.int .i64 0, .int .i64 0, .string ⟨#[]⟩, .slice none 0 0] 50)).cell? ⟨q, 0, none⟩ = some (.pointer (some ⟨p, 0, none⟩)) := (hq.keep hb0).cell 0
  have hv0 : Blk (w.alloc (.cells #[.int .i64 0, .int .i64 0, .string ⟨#[]⟩, .slice none 0 0] 50)) w.heap.size 50 (enc_item zero_of_item).toArray (0, 0) := Blk.new w _ _ _
  have HA := Lib.hid (pop_none_item _ p v (hp.keep hb0))
  have HV := Lib.hid hv0
  clear hq hp hv0
  go_enter Try.func81, Try.ntmps81
  go_wp2_with fail
  refine HA.out.mono ?_
  rintro e w1 ⟨rfl, hb1⟩
  obtain ⟨hzc, hzf⟩ := var_item (HV.out.keep hb1)
  have z0 := hzc 0 _ rfl; have z1 := hzc 1 _ rfl; have z2 := hzc 2 _ rfl; have z3 := hzc 3 _ rfl
  have hb2 := hb0.trans (hb1.mono hb0.size)
  clear hzc hb1
  go_wp2_with fail
  refine bodyPost_ret (v := .tuple #[.agg #[.int .i64 0, .int .i64 0, .string ⟨#[]⟩, .slice none 0 0], .bool false]) (by simp [results, Try.results81, go_sem, z0, z1, z2, z3]) rfl ⟨rfl, ?_⟩
  exact (((hb2.setCell (Nat.le_refl _) _).setCell (Nat.le_refl _) _).setCell (Nat.le_refl _) _).setCell (Nat.le_refl _) _
theorem topL_item (B : Nat) (w : World) (q : Nat) (l : List It) (h : LB_item B w q l) :
    Calls Try.prog 48 #[.pointer (some ⟨q, 0, none⟩)] w fun e w' => e = .returned (.tuple #[(l.getLast?).elim (.agg #[.int .i64 0, .int .i64 0, .string ⟨#[]⟩, .slice none 0 0]) val_item, .bool (l.getLast?).isSome]) ∧ Below w.heap.size w w' := let ⟨F, hF, _⟩ := h.free; topF_item F w q l hF
theorem popL_none_item (B : Nat) (w : World) (q : Nat) (h : LB_item B w q []) :
    Calls Try.prog 81 #[.pointer (some ⟨q, 0, none⟩)] w fun e w' => e = .returned (.tuple #[.agg #[.int .i64 0, .int .i64 0, .string ⟨#[]⟩, .slice none 0 0], .bool false]) ∧ Below w.heap.size w w' := let ⟨F, hF, _⟩ := h.free; popF_none_item F w q hF
end Go.Proofs.Ytoehpladbdefkaa
