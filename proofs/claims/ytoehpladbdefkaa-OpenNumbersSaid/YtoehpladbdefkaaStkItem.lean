/- A pile of item (structs): the methods of stack.Stack, each with what it answers. -/
import Derived.Test.YtoehpladbdefkaaBase
import Derived.Test.YtoehpladbdefkaaSlItem
import Derived.Laws.ResultCell
import Derived.Test.YtoehpladbdefkaaItem
namespace Go.Proofs.Ytoehpladbdefkaa
open Go.RowKit

def enc_item : It → List Value := fun x => [.int .i64 x.h, .int .i64 x.ns, .string x.name, .slice x.a x.n x.c]
def val_item : It → Value := fun x => .agg #[.int .i64 x.h, .int .i64 x.ns, .string x.name, .slice x.a x.n x.c]
theorem encOk_item : EncOk enc_item 4 := fun x => ⟨rfl, fun u hu => List.all_eq_true.1 (show (enc_item x).all (fun u => u.oneCell') = true from rfl) u hu⟩
abbrev Pile_item (w : World) (p : Nat) (v : Value) (l : List It) : Prop := Stk 134 50 4 enc_item w p v l

theorem new_item (w : World) :
    Calls Try.prog 75 #[] w fun e w' => e = .returned (.pointer (some ⟨w.heap.size, 0, none⟩)) ∧ Pile_item w' w.heap.size (.slice none 0 0) [] ∧ Below w.heap.size w w' := by
  go_enter Try.func75, Try.ntmps75
  go_wp2
  go_ret
  exact ⟨rfl, ⟨Blk.new w _ _ _, World.ownsRow_nil _ _ _ _, fun h => by cases h⟩, (Below.refl _ _).alloc (Nat.le_refl _) _⟩

theorem len_item (w : World) (p : Nat) (v : Value) (l : List It) (h : Pile_item w p v l) :
    Calls Try.prog 84 #[.pointer (some ⟨p, 0, none⟩)] w fun e w' => e = .returned (.int .i64 (l.length : Int)) ∧ w = w' := by
  obtain ⟨A, c, rfl, hc, _, _⟩ := own_rd h.row (row_one encOk_item l)
  have h0 : w.cell? ⟨p, 0, none⟩ = some (.slice A l.length c) := h.cell.cell 0
  go_enter Try.func84, Try.ntmps84
  go_wp2
  go_ret
  exact ⟨rfl, rfl⟩

theorem is_item (w : World) (p : Nat) (v : Value) (l : List It) (i : Int) (h : Pile_item w p v l) :
    Calls Try.prog 118 #[.pointer (some ⟨p, 0, none⟩), .int .i64 i] w fun e w' => e = .returned (.bool (getL l i).isSome) ∧ w = w' := by
  obtain ⟨A, c, rfl, hc, _, _⟩ := own_rd h.row (row_one encOk_item l)
  have h0 : w.cell? ⟨p, 0, none⟩ = some (.slice A l.length c) := h.cell.cell 0
  rw [getL_isSome]
  clear h hc
  by_cases hi : 0 ≤ i
  · have d1 : decide (i ≥ 0) = true := decide_eq_true hi
    rw [show decide (0 ≤ i) = true from d1, Bool.true_and]
    go_enter Try.func118, Try.ntmps118
    go_wp2
    go_ret
    exact ⟨rfl, rfl⟩
  · have d1 : decide (i ≥ 0) = false := decide_eq_false hi
    rw [show decide (0 ≤ i) = false from d1, Bool.false_and]
    go_enter Try.func118, Try.ntmps118
    go_wp2
    go_ret
    exact ⟨rfl, rfl⟩

theorem at_item (w : World) (p : Nat) (v : Value) (l : List It) (i : Int) (h : Pile_item w p v l) :
    Calls Try.prog 85 #[.pointer (some ⟨p, 0, none⟩), .int .i64 i] w fun e w' => e = .returned (.tuple #[(getL l i).elim (.agg #[.int .i64 0, .int .i64 0, .string ⟨#[]⟩, .slice none 0 0]) val_item, .bool (getL l i).isSome]) ∧ Below w.heap.size w w' := by
  have hb0 : Below w.heap.size w (w.alloc (.cells #[.int .i64 0, .int .i64 0, .string ⟨#[]⟩, .slice none 0 0] 50)) := (Below.refl _ _).alloc (Nat.le_refl _) _
  have hI := is_item _ p v l i (h.keep hb0)
  rcases hg : getL l i with _ | x
  · rw [hg] at hI
    simp only [Option.isSome_none, Option.elim] at hI ⊢
    go_enter Try.func85, Try.ntmps85
    go_wp2_with fail
    refine hI.mono ?_
    rintro e w' ⟨rfl, rfl⟩
    go_wp2_with fail
    refine bodyPost_ret (v := .tuple #[.agg #[.int .i64 0, .int .i64 0, .string ⟨#[]⟩, .slice none 0 0], .bool false]) (by simp [results, Try.results85, go_sem]) rfl ⟨rfl, ?_⟩
    exact ((Below.refl _ _).alloc (Nat.le_refl _) _).alloc (by simp) _
  · rw [hg] at hI
    obtain ⟨j, rfl, hj, hx⟩ := getL_some hg
    obtain ⟨g, cap, rest, rfl, _, hb, hnc, _, _⟩ := own_parts (h.keep hb0).row (by omega)
    have h0 := (h.keep hb0).cell.cell 0
    have hc : ∀ k u, (enc_item x)[k]? = some u → (w.alloc (.cells #[.int .i64 0, .int .i64 0, .string ⟨#[]⟩, .slice none 0 0] 50)).cell? ⟨g, j * 4 + k, none⟩ = some u := fun k u hu => by
      rw [hb.cell]
      have hr := row_at encOk_item l j k x u hx hu
      simp only [List.getElem?_toArray]
      rw [List.getElem?_append_left (List.getElem?_eq_some_iff.1 hr).1]
      exact hr
    have c0 := hc 0 _ rfl; have c1 := hc 1 _ rfl; have c2 := hc 2 _ rfl; have c3 := hc 3 _ rfl; simp only [Nat.add_zero] at c0
    have hglt : g < w.heap.size := owns_lt h.row rfl
    clear hc
    simp only [Option.isSome_some, Option.elim] at hI ⊢
    go_enter Try.func85, Try.ntmps85
    go_wp2_with fail
    refine hI.mono ?_
    rintro e w' ⟨rfl, rfl⟩
    go_wp2_with fail
    refine bodyPost_ret (v := .tuple #[val_item x, .bool true]) (by simp [results, Try.results85, val_item, go_sem]) rfl ⟨rfl, ?_⟩
    exact (Below.refl _ _).alloc (Nat.le_refl _) _

/-- A variable that holds one: its cells, and that they may be written. -/
theorem var_item {w : World} {b : Nat} {x : It} (h : Blk w b 50 (enc_item x).toArray (0, 0)) : (∀ k u, (enc_item x)[k]? = some u → w.cell? ⟨b, k, none⟩ = some u) ∧ ∀ k, w.frozen? ⟨b, k, none⟩ = false :=
  ⟨fun k u hu => by rw [h.cell k, List.getElem?_toArray]; exact hu, fun k => h.frozen k (.inr (Nat.zero_le _))⟩
def zero_of_item : It := ⟨0, 0, ⟨#[]⟩, none, 0, 0⟩

set_option maxHeartbeats 1000000 in
set_option maxRecDepth 100000 in
theorem top_item (w : World) (p : Nat) (v : Value) (l : List It) (hl : l.length ≤ 9223372036854775807) (h : Pile_item w p v l) :
    Calls Try.prog 86 #[.pointer (some ⟨p, 0, none⟩)] w fun e w' => e = .returned (.tuple #[(l.getLast?).elim (.agg #[.int .i64 0, .int .i64 0, .string ⟨#[]⟩, .slice none 0 0]) val_item, .bool (l.getLast?).isSome]) ∧ Below w.heap.size w w' := by
  have hb0 : Below w.heap.size w (w.alloc (.cells #[.int .i64 0, .int .i64 0, .string ⟨#[]⟩, .slice none 0 0] 50)) := (Below.refl _ _).alloc (Nat.le_refl _) _
  have h' := h.keep hb0
  have hA := at_item _ p v l ((l.length : Int) - 1) h'
  rw [getL_last] at hA
  obtain ⟨A, c, rfl, hc, _, _⟩ := own_rd h'.row (row_one encOk_item l)
  have h0 : (w.alloc (.cells #[.int .i64 0, .int .i64 0, .string ⟨#[]⟩, .slice none 0 0] 50)).cell? ⟨p, 0, none⟩ = some (.slice A l.length c) := h'.cell.cell 0
  have hv0 : Blk (w.alloc (.cells #[.int .i64 0, .int .i64 0, .string ⟨#[]⟩, .slice none 0 0] 50)) w.heap.size 50 (enc_item zero_of_item).toArray (0, 0) := Blk.new w _ _ _
  have s1 : IntKind.i64.wrap ((l.length : Int) - 1) = (l.length : Int) - 1 := IntWalk.i64_in _ (by omega)
  have HV := Lib.hid hv0
  clear hv0
  go_enter Try.func86, Try.ntmps86
  go_wp2_with fail
  refine hA.mono ?_
  rintro e w' ⟨rfl, hb1⟩
  have hv1 := var_item (HV.out.keep hb1)
  obtain ⟨hvc, hvf⟩ := hv1
  have c0 := hvc 0 _ rfl; have c1 := hvc 1 _ rfl; have c2 := hvc 2 _ rfl; have c3 := hvc 3 _ rfl
  clear hvc
  have hb2 := hb0.trans (hb1.mono hb0.size)
  rcases hq : l.getLast? with _ | x
  · simp only [Option.isSome_none, Option.elim]
    go_wp2_with fail
    refine bodyPost_ret (v := .tuple #[.agg #[.int .i64 0, .int .i64 0, .string ⟨#[]⟩, .slice none 0 0], .bool false]) (by simp [results, Try.results86, go_sem, c0, c1, c2, c3]) rfl ⟨by rw [hq]; rfl, ?_⟩
    exact (((hb2.setCell (Nat.le_refl _) _).setCell (Nat.le_refl _) _).setCell (Nat.le_refl _) _).setCell (Nat.le_refl _) _
  · simp only [Option.isSome_some, Option.elim, val_item]
    go_wp2_with fail
    refine bodyPost_ret (v := .tuple #[val_item x, .bool true]) (by simp [results, Try.results86, go_sem, val_item, c0, c1, c2, c3]) rfl ⟨by rw [hq]; rfl, ?_⟩
    exact (((hb2.setCell (Nat.le_refl _) _).setCell (Nat.le_refl _) _).setCell (Nat.le_refl _) _).setCell (Nat.le_refl _) _

set_option maxHeartbeats 2000000 in
set_option maxRecDepth 100000 in
theorem push_item (w : World) (p : Nat) (v : Value) (l : List It) (x : It) (h : Pile_item w p v l) (hsz : (l.length + 1) * 56 ≤ 140737488355328) :
    Calls Try.prog 76 #[.pointer (some ⟨p, 0, none⟩), val_item x] w fun e w' => ∃ v', e = .returned (.tuple #[]) ∧ Pile_item w' p v' (l ++ [x]) ∧ But (foot p v) w w' ∧ Grown w v v' := by
  obtain ⟨i0, hi0, hz0, hz1, hz2⟩ := info_parts info_item
  obtain ⟨A, c, hv, hc, _, _⟩ := own_rd h.row (row_one encOk_item l)
  have hb0 : Below w.heap.size w (w.alloc (.cells (enc_item x).toArray 50)) := (Below.refl _ _).alloc (Nat.le_refl _) _
  have h0 : (w.alloc (.cells (enc_item x).toArray 50)).cell? ⟨p, 0, none⟩ = some v := (h.keep hb0).cell.cell 0
  obtain ⟨hvc, hvf⟩ := var_item (x := x) (Blk.new w 50 (enc_item x).toArray (0, 0))
  have c0 := hvc 0 _ rfl; have c1 := hvc 1 _ rfl; have c2 := hvc 2 _ rfl; have c3 := hvc 3 _ rfl
  clear hvc hvf
  have hb1 : Below w.heap.size w ((w.alloc (.cells (enc_item x).toArray 50)).drew.alloc (.cells (enc_item x).toArray 50)) := hb0.drew.alloc (by simp) _
  have hown : ((w.alloc (.cells (enc_item x).toArray 50)).drew.alloc (.cells (enc_item x).toArray 50)).ownsRow 0 50 4 v l.length (l.flatMap enc_item) :=
    owns_but h.row (But.of_below hb1) (S := fun _ => False) (fun _ _ h => h)
  have hrd : Rd ((w.alloc (.cells (enc_item x).toArray 50)).drew.alloc (.cells (enc_item x).toArray 50)) (some ⟨w.heap.size + 1, 0, none⟩) 1 4 (enc_item x) :=
    ⟨rfl, (encOk_item x).2, fun _ => ⟨_, rfl, fun j u hu => by
      have hb1 : Blk ((w.alloc (.cells (enc_item x).toArray 50)).drew.alloc (.cells (enc_item x).toArray 50)) (w.heap.size + 1) 50 (enc_item x).toArray (0, 0) := by
        have := Blk.new (w.alloc (.cells (enc_item x).toArray 50)).drew 50 (enc_item x).toArray (0, 0)
        simpa using this
      rw [add0, hb1.cell j, List.getElem?_toArray]; exact hu⟩⟩
  have h01 : ((w.alloc (.cells (enc_item x).toArray 50)).alloc (.cells (enc_item x).toArray 50)).cell? ⟨p, 0, none⟩ = some v := (h.keep (hb0.alloc (by simp) (.cells (enc_item x).toArray 50))).cell.cell 0
  have HH := Lib.hid h
  have HO := Lib.hid hown
  have HR := Lib.hid hrd
  have HB1 := Lib.hid hb1
  clear hown hrd hb1 h hb0
  unfold enc_item at h0 h01 c0 c1 c2 c3
  subst hv
  unfold val_item
  go_enter Try.func76, Try.ntmps76
  go_wp2_with fail
  go_region_law ((
    refine step_append_any _ (by rfl) (.tmp 8) (.tmp 10) _ (by rfl) 0 50 i0 _ 4 56 Try.underlying48 hi0 hz0 hz1 hz2 rfl (by omega) _ _ _ (by rfl) HO.out _ 1 1 (enc_item x) (by rfl) HR.out (by simp only [maxLen]; omega) (by omega) (Nat.zero_le _) ?_
    intro v1 w1 hown1 hg1 hat1
    obtain ⟨A1, cap1, hv1, k0, f0, HS, HB, HG, _⟩ := stored_after (l1 := l ++ [x]) encOk_item HH.out HB1.out hown1 hg1 hat1 (by simp) (by rw [List.flatMap_append]; simp)
    clear hown1 hg1 hat1
    subst hv1))
  all_goals
    go_end0
    exact ⟨_, rfl, HS.out, HB.out, HG.out⟩

set_option maxHeartbeats 2000000 in
set_option maxRecDepth 100000 in
theorem cut_in_item (w : World) (p : Nat) (v : Value) (l : List It) (j : Nat) (x : It) (h : Pile_item w p v l) (hx : l[j]? = some x) :
    Calls Try.prog 122 #[.pointer (some ⟨p, 0, none⟩), .int .i64 (j : Int)] w fun e w' => ∃ v', e = .returned (.tuple #[val_item x, .bool true]) ∧ Pile_item w' p v' (cutL l j) ∧ But (foot p v) w w' ∧ v'.ownBlock = v.ownBlock := by
  have hj : j < l.length := (List.getElem?_eq_some_iff.1 hx).1
  have hb0 : Below w.heap.size w (w.alloc (.cells #[.int .i64 0, .int .i64 0, .string ⟨#[]⟩, .slice none 0 0] 50)) := (Below.refl _ _).alloc (Nat.le_refl _) _
  have hA := at_item _ p v l (j : Int) (h.keep hb0)
  rw [getL_nat, hx] at hA
  simp only [Option.isSome_some, Option.elim] at hA
  obtain ⟨m, hm⟩ : ∃ m, l.length = m + 1 := ⟨l.length - 1, by omega⟩
  have hv0 : Blk (w.alloc (.cells #[.int .i64 0, .int .i64 0, .string ⟨#[]⟩, .slice none 0 0] 50)) w.heap.size 50 (enc_item zero_of_item).toArray (0, 0) := Blk.new w _ _ _
  have hplt := h.cell.lt
  obtain ⟨g, cap, rest, hv, _, _, hnc, hcm, _⟩ := own_parts (hm ▸ h.row) (by omega)
  have s1 : IntKind.i64.wrap ((j : Int) + 1) = (j : Int) + 1 := IntWalk.i64_in _ (by simp only [maxLen] at hcm; omega)
  have HH := Lib.hid h
  have HA := Lib.hid hA
  have HV := Lib.hid hv0
  have HB0 := Lib.hid hb0
  clear h hA hb0 hv0
  go_enter Try.func122, Try.ntmps122
  go_wp2_with fail
  refine HA.out.mono ?_
  rintro e w1 ⟨rfl, hb1⟩
  have hb01 := HB0.out.trans (hb1.mono HB0.out.size)
  have hs01 := hb01.size
  have hs1 := hb1.size
  have hb2 : Below w.heap.size w (w1.alloc (.cells (enc_item x).toArray 50)) := hb01.alloc hs01 _
  have h2 := HH.out.keep hb2
  have h2c : (w1.alloc (.cells (enc_item x).toArray 50)).cell? ⟨p, 0, none⟩ = some v := h2.cell.cell 0
  have hvx : Blk (w1.alloc (.cells (enc_item x).toArray 50)) w1.heap.size 50 (enc_item x).toArray (0, 0) := Blk.new w1 _ _ _
  have hvz : Blk (w1.alloc (.cells (enc_item x).toArray 50)) w.heap.size 50 (enc_item zero_of_item).toArray (0, 0) := (HV.out.keep hb1).alloc _
  have hdel := delete_item 0 m j v _ _ (hm ▸ h2.row) (row_one encOk_item l) (by omega)
  rw [row_take encOk_item, row_drop encOk_item] at hdel
  have HD := Lib.hid hdel
  have HX := Lib.hid hvx
  have HZ := Lib.hid hvz
  have HB2 := Lib.hid hb2
  clear hdel h2 hvx hvz hb2 hb1 hb01
  subst hv
  unfold enc_item at h2c
  simp only [val_item]
  go_wp2_with fail
  refine HD.out.mono ?_
  rintro e w3 ⟨v1, rfl, hown1, hg1, hat1⟩
  obtain ⟨A1, cap1, hv1, k0, f0, HS, HB, HG, hbut⟩ := stored_after (l1 := cutL l j) encOk_item HH.out HB2.out hown1 hg1 (.inl hat1) (by rw [cutL_len l j hj]; omega) (by unfold cutL; rw [List.flatMap_append])
  have hgb : ∀ b, w.heap.size ≤ b → b < (w1.alloc (.cells (enc_item x).toArray 50)).heap.size → w3.heap[b]? = (w1.alloc (.cells (enc_item x).toArray 50)).heap[b]? := fun b hb hb' => hg1.block b hb' (fun e => by have := owns_lt HH.out.row e.symm; omega)
  have hX3 : Blk w3 w1.heap.size 50 (enc_item x).toArray (0, 0) := (hgb _ hs01 (by simp)).trans HX.out
  have hZ3 : Blk w3 w.heap.size 50 (enc_item zero_of_item).toArray (0, 0) := (hgb _ (Nat.le_refl _) HZ.out.lt).trans HZ.out
  obtain ⟨hxc, _⟩ := var_item hX3
  have c0 := hxc 0 _ rfl; have c1 := hxc 1 _ rfl; have c2 := hxc 2 _ rfl; have c3 := hxc 3 _ rfl
  obtain ⟨hzc, hzf⟩ := var_item hZ3
  have z0 := hzc 0 _ rfl; have z1 := hzc 1 _ rfl; have z2 := hzc 2 _ rfl; have z3 := hzc 3 _ rfl
  have n1 : ¬ w1.heap.size = p := by omega
  have n2 : ¬ w.heap.size = p := by omega
  have n3 : ¬ p = w1.heap.size := by omega
  have n4 : ¬ p = w.heap.size := by omega
  have HAT := Lib.hid hat1
  clear hxc hzc hown1 hg1 hgb hat1 hX3 hZ3 hbut h2c
  subst hv1
  go_wp2_with fail
  have hfo : ∀ k, foot p (.slice A1 m cap1) k → ¬ k = w.heap.size := fun k hk e => by
    have hk' : foot p (.slice (some ⟨g, 0, none⟩) (m + 1) cap) k := by
      rcases hk with hk | hk
      · exact .inl hk
      · exact .inr (HAT.out ▸ hk)
    have := HH.out.lt hk'
    omega
  refine bodyPost_ret (v := .tuple #[val_item x, .bool true]) (by simp [results, Try.results122, go_sem, val_item, z0, z1, z2, z3]) rfl
    ⟨_, rfl, HS.out.but (set4_but _ _ _ _ _ _) hfo, HB.out.trans (set4_but _ _ _ _ _ _) (fun k hk => .inr (by omega)), HAT.out⟩

set_option maxHeartbeats 2000000 in
set_option maxRecDepth 100000 in
theorem cut_out_item (w : World) (p : Nat) (v : Value) (l : List It) (i : Int) (h : Pile_item w p v l) (hx : getL l i = none) :
    Calls Try.prog 122 #[.pointer (some ⟨p, 0, none⟩), .int .i64 i] w fun e w' => e = .returned (.tuple #[.agg #[.int .i64 0, .int .i64 0, .string ⟨#[]⟩, .slice none 0 0], .bool false]) ∧ Below w.heap.size w w' := by
  have hb0 : Below w.heap.size w (w.alloc (.cells #[.int .i64 0, .int .i64 0, .string ⟨#[]⟩, .slice none 0 0] 50)) := (Below.refl _ _).alloc (Nat.le_refl _) _
  have hA := at_item _ p v l i (h.keep hb0)
  rw [hx] at hA
  simp only [Option.isSome_none, Option.elim] at hA
  have hv0 : Blk (w.alloc (.cells #[.int .i64 0, .int .i64 0, .string ⟨#[]⟩, .slice none 0 0] 50)) w.heap.size 50 (enc_item zero_of_item).toArray (0, 0) := Blk.new w _ _ _
  have HV := Lib.hid hv0
  clear h hv0
  go_enter Try.func122, Try.ntmps122
  go_wp2_with fail
  refine hA.mono ?_
  rintro e w1 ⟨rfl, hb1⟩
  have hb01 := hb0.trans (hb1.mono hb0.size)
  have hs01 := hb01.size
  have hvz := (HV.out.keep hb1).alloc (.cells (enc_item zero_of_item).toArray 50)
  obtain ⟨hzc, hzf⟩ := var_item hvz
  have z0 := hzc 0 _ rfl; have z1 := hzc 1 _ rfl; have z2 := hzc 2 _ rfl; have z3 := hzc 3 _ rfl
  obtain ⟨hxc, _⟩ := var_item (x := zero_of_item) (Blk.new w1 50 (enc_item zero_of_item).toArray (0, 0))
  have c0 := hxc 0 _ rfl; have c1 := hxc 1 _ rfl; have c2 := hxc 2 _ rfl; have c3 := hxc 3 _ rfl
  have hb2 : Below w.heap.size w (w1.alloc (.cells (enc_item zero_of_item).toArray 50)) := hb01.alloc hs01 _
  have HB2 := Lib.hid hb2
  unfold enc_item zero_of_item at z0 z1 z2 z3 c0 c1 c2 c3 hzf
  clear hzc hxc hb2 hvz hb1 hb01 hb0
  go_wp2_with fail
  refine bodyPost_ret (v := .tuple #[.agg #[.int .i64 0, .int .i64 0, .string ⟨#[]⟩, .slice none 0 0], .bool false]) (by simp [results, Try.results122, go_sem, z0, z1, z2, z3]; try rfl) rfl ⟨rfl, ?_⟩
  exact (((HB2.out.setCell (Nat.le_refl _) _).setCell (Nat.le_refl _) _).setCell (Nat.le_refl _) _).setCell (Nat.le_refl _) _

set_option maxHeartbeats 2000000 in
set_option maxRecDepth 100000 in
theorem pop_some_item (w : World) (p : Nat) (v : Value) (l : List It) (x : It) (h : Pile_item w p v (l ++ [x])) :
    Calls Try.prog 117 #[.pointer (some ⟨p, 0, none⟩)] w fun e w' => ∃ v', e = .returned (.tuple #[val_item x, .bool true]) ∧ Pile_item w' p v' l ∧ But (foot p v) w w' ∧ v'.ownBlock = v.ownBlock := by
  have hb0 : Below w.heap.size w (w.alloc (.cells #[.int .i64 0, .int .i64 0, .string ⟨#[]⟩, .slice none 0 0] 50)) := (Below.refl _ _).alloc (Nat.le_refl _) _
  have h' := h.keep hb0
  have hC := cut_in_item _ p v (l ++ [x]) l.length x h' (by simp)
  rw [show cutL (l ++ [x]) l.length = l by simp [cutL]] at hC
  have hrow := h.row
  rw [show (l ++ [x]).length = l.length + 1 by simp] at hrow
  obtain ⟨g, cap, rest, hv, _, _, hnc, hcm, _⟩ := own_parts hrow (by omega)
  have h0 : (w.alloc (.cells #[.int .i64 0, .int .i64 0, .string ⟨#[]⟩, .slice none 0 0] 50)).cell? ⟨p, 0, none⟩ = some v := h'.cell.cell 0
  have hv0 : Blk (w.alloc (.cells #[.int .i64 0, .int .i64 0, .string ⟨#[]⟩, .slice none 0 0] 50)) w.heap.size 50 (enc_item zero_of_item).toArray (0, 0) := Blk.new w _ _ _
  have hnf : ¬ foot p v w.heap.size := fun hk => by have := h.lt hk; omega
  have s1 : IntKind.i64.wrap ((l.length : Int) + 1 - 1) = (l.length : Int) := by
    rw [show (l.length : Int) + 1 - 1 = (l.length : Int) by omega]
    exact IntWalk.i64_in _ (by simp only [maxLen] at hcm; omega)
  have s2 : IntKind.i64.wrap ((l.length : Int)) = (l.length : Int) := IntWalk.i64_in _ (by simp only [maxLen] at hcm; omega)
  have HC := Lib.hid hC
  have HV := Lib.hid hv0
  have HB := Lib.hid hb0
  have HNF := Lib.hid hnf
  clear h hC hrow h' hv0 hb0 hnf
  subst hv
  go_enter Try.func117, Try.ntmps117
  go_wp2_with fail
  refine HC.out.mono ?_
  rintro e w1 ⟨v1, rfl, hst, hb, hv1⟩
  have hvz : Blk w1 w.heap.size 50 (enc_item zero_of_item).toArray (0, 0) := HV.out.but hb HNF.out
  obtain ⟨hzc, hzf⟩ := var_item hvz
  have z0 := hzc 0 _ rfl; have z1 := hzc 1 _ rfl; have z2 := hzc 2 _ rfl; have z3 := hzc 3 _ rfl
  have hfo : ∀ k, foot p v1 k → ¬ k = w.heap.size := fun k hk e => HNF.out (by
    subst e
    rcases hk with hk | hk
    · exact .inl hk
    · exact .inr (hv1 ▸ hk))
  have HS := Lib.hid hst
  have HB1 := Lib.hid ((But.of_below (S := foot p (.slice (some ⟨g, 0, none⟩) (l.length + 1) cap)) HB.out).trans hb (fun k hk => .inl hk))
  clear hzc hvz hst hb
  simp only [val_item]
  go_wp2_with fail
  refine bodyPost_ret (v := .tuple #[val_item x, .bool true]) (by simp [results, Try.results117, go_sem, val_item, z0, z1, z2, z3]) rfl
    ⟨_, rfl, HS.out.but (set4_but _ _ _ _ _ _) hfo, HB1.out.trans (set4_but _ _ _ _ _ _) (fun k hk => .inr (by omega)), hv1⟩

set_option maxHeartbeats 2000000 in
set_option maxRecDepth 100000 in
theorem pop_none_item (w : World) (p : Nat) (v : Value) (h : Pile_item w p v []) :
    Calls Try.prog 117 #[.pointer (some ⟨p, 0, none⟩)] w fun e w' => e = .returned (.tuple #[.agg #[.int .i64 0, .int .i64 0, .string ⟨#[]⟩, .slice none 0 0], .bool false]) ∧ Below w.heap.size w w' := by
  have hb0 : Below w.heap.size w (w.alloc (.cells #[.int .i64 0, .int .i64 0, .string ⟨#[]⟩, .slice none 0 0] 50)) := (Below.refl _ _).alloc (Nat.le_refl _) _
  have h' := h.keep hb0
  have hC := cut_out_item _ p v [] (-1) h' rfl
  obtain ⟨A, c, rfl, hc, _, _⟩ := own_rd h'.row (row_one encOk_item [])
  have h0 : (w.alloc (.cells #[.int .i64 0, .int .i64 0, .string ⟨#[]⟩, .slice none 0 0] 50)).cell? ⟨p, 0, none⟩ = some (.slice A 0 c) := h'.cell.cell 0
  have hv0 : Blk (w.alloc (.cells #[.int .i64 0, .int .i64 0, .string ⟨#[]⟩, .slice none 0 0] 50)) w.heap.size 50 (enc_item zero_of_item).toArray (0, 0) := Blk.new w _ _ _
  have HV := Lib.hid hv0
  have HB := Lib.hid hb0
  clear h h' hv0 hb0
  go_enter Try.func117, Try.ntmps117
  go_wp2_with fail
  refine hC.mono ?_
  rintro e w1 ⟨rfl, hb1⟩
  obtain ⟨hzc, hzf⟩ := var_item (HV.out.keep hb1)
  have z0 := hzc 0 _ rfl; have z1 := hzc 1 _ rfl; have z2 := hzc 2 _ rfl; have z3 := hzc 3 _ rfl
  have HB2 := Lib.hid (HB.out.trans (hb1.mono HB.out.size))
  clear hzc hb1
  go_wp2_with fail
  refine bodyPost_ret (v := .tuple #[.agg #[.int .i64 0, .int .i64 0, .string ⟨#[]⟩, .slice none 0 0], .bool false]) (by simp [results, Try.results117, go_sem, z0, z1, z2, z3]) rfl ⟨rfl, ?_⟩
  exact (((HB2.out.setCell (Nat.le_refl _) _).setCell (Nat.le_refl _) _).setCell (Nat.le_refl _) _).setCell (Nat.le_refl _) _

set_option maxHeartbeats 1000000 in
theorem all_item (w : World) (p : Nat) (v : Value) (l : List It) (h : Pile_item w p v l) (hsz : l.length * 56 ≤ 140737488355328) :
    Calls Try.prog 79 #[.pointer (some ⟨p, 0, none⟩)] w fun e w' => ∃ v', e = .returned v' ∧ w'.ownsRow 0 50 4 v' l.length (l.flatMap enc_item) ∧ Below w.heap.size w w' ∧ (∀ g, v'.ownBlock = some g → w.heap.size ≤ g) := by
  rcases h.row.2 with ⟨rfl, h0⟩ | ⟨g, cap, cur, rfl, _⟩
  · have hc := h.cell.cell 0
    have hl : l = [] := List.eq_nil_of_length_eq_zero h0
    subst hl
    have hc0 : w.cell? ⟨p, 0, none⟩ = some (.slice none 0 0) := hc
    clear h hc
    go_enter Try.func79, Try.ntmps79
    go_wp2_with fail
    refine (clone_nil_item _).mono ?_
    rintro e w' ⟨rfl, rfl⟩
    go_wp2_with fail
    go_ret
    exact ⟨_, rfl, World.ownsRow_nil _ _ _ _, Below.refl _ _, fun g hg => by cases hg⟩
  · obtain ⟨A, c, hv, _, hrd, _⟩ := own_rd h.row (row_one encOk_item l)
    cases hv
    have hc0 : w.cell? ⟨p, 0, none⟩ = some (.slice (some ⟨g, 0, none⟩) l.length cap) := h.cell.cell 0
    have HC := Lib.hid (clone_some_item 0 _ _ cap _ w (Nat.zero_le _) hrd hsz)
    clear h hrd
    go_enter Try.func79, Try.ntmps79
    go_wp2_with fail
    refine HC.out.mono ?_
    rintro e w1 ⟨v1, rfl, ho, hb, hg⟩
    go_wp2_with fail
    go_ret
    exact ⟨_, rfl, ho, hb, hg⟩
end Go.Proofs.Ytoehpladbdefkaa
