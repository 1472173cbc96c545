/- A pile of job (structs): the methods of stack.Stack, each with what it answers. -/
import Derived.Test.YtojpedgfllgbcaaDoorBase
import Derived.Test.YtojpedgfllgbcaaDoorSlJob
import Derived.Laws.ResultCell
import Derived.Test.YtojpedgfllgbcaaDoorSetN
namespace Go.Proofs.YtojpedgfllgbcaaDoor
open Go.RowKit

def enc_job : (Option Addr × Bool × ByteArray) → List Value := fun x => [.pointer x.1, .bool x.2.1, .string x.2.2]
def val_job : (Option Addr × Bool × ByteArray) → Value := fun x => .agg #[.pointer x.1, .bool x.2.1, .string x.2.2]
theorem encOk_job : EncOk enc_job 3 := fun x => ⟨rfl, fun u hu => List.all_eq_true.1 (show (enc_job x).all (fun u => u.oneCell') = true from rfl) u hu⟩
abbrev Pile_job (w : World) (p : Nat) (v : Value) (l : List (Option Addr × Bool × ByteArray)) : Prop := Stk 114 92 3 enc_job w p v l

theorem new_job (w : World) :
    Calls Tryd.prog 63 #[] w fun e w' => e = .returned (.pointer (some ⟨w.heap.size, 0, none⟩)) ∧ Pile_job w' w.heap.size (.slice none 0 0) [] ∧ Below w.heap.size w w' := by
  go_enter Tryd.func63, Tryd.ntmps63
  go_wp2
  go_ret
  exact ⟨rfl, ⟨Blk.new w _ _ _, World.ownsRow_nil _ _ _ _, fun h => by cases h⟩, (Below.refl _ _).alloc (Nat.le_refl _) _⟩

theorem is_job (w : World) (p : Nat) (v : Value) (l : List (Option Addr × Bool × ByteArray)) (i : Int) (h : Pile_job w p v l) :
    Calls Tryd.prog 113 #[.pointer (some ⟨p, 0, none⟩), .int .i64 i] w fun e w' => e = .returned (.bool (getL l i).isSome) ∧ w = w' := by
  obtain ⟨A, c, rfl, hc, _, _⟩ := own_rd h.row (row_one encOk_job l)
  have h0 : w.cell? ⟨p, 0, none⟩ = some (.slice A l.length c) := h.cell.cell 0
  rw [getL_isSome]
  clear h hc
  by_cases hi : 0 ≤ i
  · have d1 : decide (i ≥ 0) = true := decide_eq_true hi
    rw [show decide (0 ≤ i) = true from d1, Bool.true_and]
    go_enter Tryd.func113, Tryd.ntmps113
    go_wp2
    go_ret
    exact ⟨rfl, rfl⟩
  · have d1 : decide (i ≥ 0) = false := decide_eq_false hi
    rw [show decide (0 ≤ i) = false from d1, Bool.false_and]
    go_enter Tryd.func113, Tryd.ntmps113
    go_wp2
    go_ret
    exact ⟨rfl, rfl⟩

theorem at_job (w : World) (p : Nat) (v : Value) (l : List (Option Addr × Bool × ByteArray)) (i : Int) (h : Pile_job w p v l) :
    Calls Tryd.prog 99 #[.pointer (some ⟨p, 0, none⟩), .int .i64 i] w fun e w' => e = .returned (.tuple #[(getL l i).elim (.agg #[.pointer none, .bool false, .string ⟨#[]⟩]) val_job, .bool (getL l i).isSome]) ∧ Below w.heap.size w w' := by
  have hb0 : Below w.heap.size w (w.alloc (.cells #[.pointer none, .bool false, .string ⟨#[]⟩] 92)) := (Below.refl _ _).alloc (Nat.le_refl _) _
  have hI := is_job _ p v l i (h.keep hb0)
  rcases hg : getL l i with _ | x
  · rw [hg] at hI
    simp only [Option.isSome_none, Option.elim] at hI ⊢
    go_enter Tryd.func99, Tryd.ntmps99
    go_wp2_with fail
    refine hI.mono ?_
    rintro e w' ⟨rfl, rfl⟩
    go_wp2_with fail
    refine bodyPost_ret (v := .tuple #[.agg #[.pointer none, .bool false, .string ⟨#[]⟩], .bool false]) (by simp [results, Tryd.results99, go_sem]) rfl ⟨rfl, ?_⟩
    exact ((Below.refl _ _).alloc (Nat.le_refl _) _).alloc (by simp) _
  · rw [hg] at hI
    obtain ⟨j, rfl, hj, hx⟩ := getL_some hg
    obtain ⟨g, cap, rest, rfl, _, hb, hnc, _, _⟩ := own_parts (h.keep hb0).row (by omega)
    have h0 := (h.keep hb0).cell.cell 0
    have hc : ∀ k u, (enc_job x)[k]? = some u → (w.alloc (.cells #[.pointer none, .bool false, .string ⟨#[]⟩] 92)).cell? ⟨g, j * 3 + k, none⟩ = some u := fun k u hu => by
      rw [hb.cell]
      have hr := row_at encOk_job l j k x u hx hu
      simp only [List.getElem?_toArray]
      rw [List.getElem?_append_left (List.getElem?_eq_some_iff.1 hr).1]
      exact hr
    have c0 := hc 0 _ rfl; have c1 := hc 1 _ rfl; have c2 := hc 2 _ rfl; simp only [Nat.add_zero] at c0
    have hglt : g < w.heap.size := owns_lt h.row rfl
    clear hc
    simp only [Option.isSome_some, Option.elim] at hI ⊢
    go_enter Tryd.func99, Tryd.ntmps99
    go_wp2_with fail
    refine hI.mono ?_
    rintro e w' ⟨rfl, rfl⟩
    go_wp2_with fail
    refine bodyPost_ret (v := .tuple #[val_job x, .bool true]) (by simp [results, Tryd.results99, val_job, go_sem]) rfl ⟨rfl, ?_⟩
    exact (Below.refl _ _).alloc (Nat.le_refl _) _

/-- A variable that holds one: its cells, and that they may be written. -/
theorem var_job {w : World} {b : Nat} {x : (Option Addr × Bool × ByteArray)} (h : Blk w b 92 (enc_job x).toArray (0, 0)) : (∀ k u, (enc_job x)[k]? = some u → w.cell? ⟨b, k, none⟩ = some u) ∧ ∀ k, w.frozen? ⟨b, k, none⟩ = false :=
  ⟨fun k u hu => by rw [h.cell k, List.getElem?_toArray]; exact hu, fun k => h.frozen k (.inr (Nat.zero_le _))⟩
def zero_of_job : (Option Addr × Bool × ByteArray) := (none, false, ⟨#[]⟩)

set_option maxHeartbeats 2000000 in
set_option maxRecDepth 100000 in
theorem push_job (w : World) (p : Nat) (v : Value) (l : List (Option Addr × Bool × ByteArray)) (x : (Option Addr × Bool × ByteArray)) (h : Pile_job w p v l) (hsz : (l.length + 1) * 32 ≤ 140737488355328) :
    Calls Tryd.prog 70 #[.pointer (some ⟨p, 0, none⟩), val_job x] w fun e w' => ∃ v', e = .returned (.tuple #[]) ∧ Pile_job w' p v' (l ++ [x]) ∧ But (foot p v) w w' ∧ Grown w v v' := by
  obtain ⟨i0, hi0, hz0, hz1, hz2⟩ := info_parts info_job
  obtain ⟨A, c, hv, hc, _, _⟩ := own_rd h.row (row_one encOk_job l)
  have hb0 : Below w.heap.size w (w.alloc (.cells (enc_job x).toArray 92)) := (Below.refl _ _).alloc (Nat.le_refl _) _
  have h0 : (w.alloc (.cells (enc_job x).toArray 92)).cell? ⟨p, 0, none⟩ = some v := (h.keep hb0).cell.cell 0
  obtain ⟨hvc, hvf⟩ := var_job (x := x) (Blk.new w 92 (enc_job x).toArray (0, 0))
  have c0 := hvc 0 _ rfl; have c1 := hvc 1 _ rfl; have c2 := hvc 2 _ rfl
  clear hvc hvf
  have hb1 : Below w.heap.size w ((w.alloc (.cells (enc_job x).toArray 92)).drew.alloc (.cells (enc_job x).toArray 92)) := hb0.drew.alloc (by simp) _
  have hown : ((w.alloc (.cells (enc_job x).toArray 92)).drew.alloc (.cells (enc_job x).toArray 92)).ownsRow 0 92 3 v l.length (l.flatMap enc_job) :=
    owns_but h.row (But.of_below hb1) (S := fun _ => False) (fun _ _ h => h)
  have hrd : Rd ((w.alloc (.cells (enc_job x).toArray 92)).drew.alloc (.cells (enc_job x).toArray 92)) (some ⟨w.heap.size + 1, 0, none⟩) 1 3 (enc_job x) :=
    ⟨rfl, (encOk_job x).2, fun _ => ⟨_, rfl, fun j u hu => by
      have hb1 : Blk ((w.alloc (.cells (enc_job x).toArray 92)).drew.alloc (.cells (enc_job x).toArray 92)) (w.heap.size + 1) 92 (enc_job x).toArray (0, 0) := by
        have := Blk.new (w.alloc (.cells (enc_job x).toArray 92)).drew 92 (enc_job x).toArray (0, 0)
        simpa using this
      rw [add0, hb1.cell j, List.getElem?_toArray]; exact hu⟩⟩
  have h01 : ((w.alloc (.cells (enc_job x).toArray 92)).alloc (.cells (enc_job x).toArray 92)).cell? ⟨p, 0, none⟩ = some v := (h.keep (hb0.alloc (by simp) (.cells (enc_job x).toArray 92))).cell.cell 0
  have HH := Lib.hid h
  have HO := Lib.hid hown
  have HR := Lib.hid hrd
  have HB1 := Lib.hid hb1
  clear hown hrd hb1 h hb0
  unfold enc_job at h0 h01 c0 c1 c2
  subst hv
  unfold val_job
  go_enter Tryd.func70, Tryd.ntmps70
  go_wp2_with fail
  go_region_law ((
    refine step_append_any _ (by rfl) (.tmp 8) (.tmp 10) _ (by rfl) 0 92 i0 _ 3 32 Tryd.underlying112 hi0 hz0 hz1 hz2 rfl (by omega) _ _ _ (by rfl) HO.out _ 1 1 (enc_job x) (by rfl) HR.out (by simp only [maxLen]; omega) (by omega) (Nat.zero_le _) ?_
    intro v1 w1 hown1 hg1 hat1
    obtain ⟨A1, cap1, hv1, k0, f0, HS, HB, HG, _⟩ := stored_after (l1 := l ++ [x]) encOk_job HH.out HB1.out hown1 hg1 hat1 (by simp) (by rw [List.flatMap_append]; simp)
    clear hown1 hg1 hat1
    subst hv1))
  all_goals
    go_end0
    exact ⟨_, rfl, HS.out, HB.out, HG.out⟩

set_option maxHeartbeats 2000000 in
set_option maxRecDepth 100000 in
theorem cut_in_job (w : World) (p : Nat) (v : Value) (l : List (Option Addr × Bool × ByteArray)) (j : Nat) (x : (Option Addr × Bool × ByteArray)) (h : Pile_job w p v l) (hx : l[j]? = some x) :
    Calls Tryd.prog 84 #[.pointer (some ⟨p, 0, none⟩), .int .i64 (j : Int)] w fun e w' => ∃ v', e = .returned (.tuple #[val_job x, .bool true]) ∧ Pile_job w' p v' (cutL l j) ∧ But (foot p v) w w' ∧ v'.ownBlock = v.ownBlock := by
  have hj : j < l.length := (List.getElem?_eq_some_iff.1 hx).1
  have hb0 : Below w.heap.size w (w.alloc (.cells #[.pointer none, .bool false, .string ⟨#[]⟩] 92)) := (Below.refl _ _).alloc (Nat.le_refl _) _
  have hA := at_job _ p v l (j : Int) (h.keep hb0)
  rw [getL_nat, hx] at hA
  simp only [Option.isSome_some, Option.elim] at hA
  obtain ⟨m, hm⟩ : ∃ m, l.length = m + 1 := ⟨l.length - 1, by omega⟩
  have hv0 : Blk (w.alloc (.cells #[.pointer none, .bool false, .string ⟨#[]⟩] 92)) w.heap.size 92 (enc_job zero_of_job).toArray (0, 0) := Blk.new w _ _ _
  have hplt := h.cell.lt
  obtain ⟨g, cap, rest, hv, _, _, hnc, hcm, _⟩ := own_parts (hm ▸ h.row) (by omega)
  have s1 : IntKind.i64.wrap ((j : Int) + 1) = (j : Int) + 1 := IntWalk.i64_in _ (by simp only [maxLen] at hcm; omega)
  have HH := Lib.hid h
  have HA := Lib.hid hA
  have HV := Lib.hid hv0
  have HB0 := Lib.hid hb0
  clear h hA hb0 hv0
  go_enter Tryd.func84, Tryd.ntmps84
  go_wp2_with fail
  refine HA.out.mono ?_
  rintro e w1 ⟨rfl, hb1⟩
  have hb01 := HB0.out.trans (hb1.mono HB0.out.size)
  have hs01 := hb01.size
  have hs1 := hb1.size
  have hb2 : Below w.heap.size w (w1.alloc (.cells (enc_job x).toArray 92)) := hb01.alloc hs01 _
  have h2 := HH.out.keep hb2
  have h2c : (w1.alloc (.cells (enc_job x).toArray 92)).cell? ⟨p, 0, none⟩ = some v := h2.cell.cell 0
  have hvx : Blk (w1.alloc (.cells (enc_job x).toArray 92)) w1.heap.size 92 (enc_job x).toArray (0, 0) := Blk.new w1 _ _ _
  have hvz : Blk (w1.alloc (.cells (enc_job x).toArray 92)) w.heap.size 92 (enc_job zero_of_job).toArray (0, 0) := (HV.out.keep hb1).alloc _
  have hdel := delete_job 0 m j v _ _ (hm ▸ h2.row) (row_one encOk_job l) (by omega)
  rw [row_take encOk_job, row_drop encOk_job] at hdel
  have HD := Lib.hid hdel
  have HX := Lib.hid hvx
  have HZ := Lib.hid hvz
  have HB2 := Lib.hid hb2
  clear hdel h2 hvx hvz hb2 hb1 hb01
  subst hv
  unfold enc_job at h2c
  simp only [val_job]
  go_wp2_with fail
  refine HD.out.mono ?_
  rintro e w3 ⟨v1, rfl, hown1, hg1, hat1⟩
  obtain ⟨A1, cap1, hv1, k0, f0, HS, HB, HG, hbut⟩ := stored_after (l1 := cutL l j) encOk_job HH.out HB2.out hown1 hg1 (.inl hat1) (by rw [cutL_len l j hj]; omega) (by unfold cutL; rw [List.flatMap_append])
  have hgb : ∀ b, w.heap.size ≤ b → b < (w1.alloc (.cells (enc_job x).toArray 92)).heap.size → w3.heap[b]? = (w1.alloc (.cells (enc_job x).toArray 92)).heap[b]? := fun b hb hb' => hg1.block b hb' (fun e => by have := owns_lt HH.out.row e.symm; omega)
  have hX3 : Blk w3 w1.heap.size 92 (enc_job x).toArray (0, 0) := (hgb _ hs01 (by simp)).trans HX.out
  have hZ3 : Blk w3 w.heap.size 92 (enc_job zero_of_job).toArray (0, 0) := (hgb _ (Nat.le_refl _) HZ.out.lt).trans HZ.out
  obtain ⟨hxc, _⟩ := var_job hX3
  have c0 := hxc 0 _ rfl; have c1 := hxc 1 _ rfl; have c2 := hxc 2 _ rfl
  obtain ⟨hzc, hzf⟩ := var_job hZ3
  have z0 := hzc 0 _ rfl; have z1 := hzc 1 _ rfl; have z2 := hzc 2 _ rfl
  have n1 : ¬ w1.heap.size = p := by omega
  have n2 : ¬ w.heap.size = p := by omega
  have n3 : ¬ p = w1.heap.size := by omega
  have n4 : ¬ p = w.heap.size := by omega
  have HAT := Lib.hid hat1
  clear hxc hzc hown1 hg1 hgb hat1 hX3 hZ3 hbut h2c
  subst hv1
  go_wp2_with fail
  have hfo : ∀ k, foot p (.slice A1 m cap1) k → ¬ k = w.heap.size := fun k hk e => by
    have hk' : foot p (.slice (some ⟨g, 0, none⟩) (m + 1) cap) k := by
      rcases hk with hk | hk
      · exact .inl hk
      · exact .inr (HAT.out ▸ hk)
    have := HH.out.lt hk'
    omega
  refine bodyPost_ret (v := .tuple #[val_job x, .bool true]) (by simp [results, Tryd.results84, go_sem, val_job, z0, z1, z2]) rfl
    ⟨_, rfl, HS.out.but (set3_but _ _ _ _ _) hfo, HB.out.trans (set3_but _ _ _ _ _) (fun k hk => .inr (by omega)), HAT.out⟩

set_option maxHeartbeats 2000000 in
set_option maxRecDepth 100000 in
theorem cut_out_job (w : World) (p : Nat) (v : Value) (l : List (Option Addr × Bool × ByteArray)) (i : Int) (h : Pile_job w p v l) (hx : getL l i = none) :
    Calls Tryd.prog 84 #[.pointer (some ⟨p, 0, none⟩), .int .i64 i] w fun e w' => e = .returned (.tuple #[.agg #[.pointer none, .bool false, .string ⟨#[]⟩], .bool false]) ∧ Below w.heap.size w w' := by
  have hb0 : Below w.heap.size w (w.alloc (.cells #[.pointer none, .bool false, .string ⟨#[]⟩] 92)) := (Below.refl _ _).alloc (Nat.le_refl _) _
  have hA := at_job _ p v l i (h.keep hb0)
  rw [hx] at hA
  simp only [Option.isSome_none, Option.elim] at hA
  have hv0 : Blk (w.alloc (.cells #[.pointer none, .bool false, .string ⟨#[]⟩] 92)) w.heap.size 92 (enc_job zero_of_job).toArray (0, 0) := Blk.new w _ _ _
  have HV := Lib.hid hv0
  clear h hv0
  go_enter Tryd.func84, Tryd.ntmps84
  go_wp2_with fail
  refine hA.mono ?_
  rintro e w1 ⟨rfl, hb1⟩
  have hb01 := hb0.trans (hb1.mono hb0.size)
  have hs01 := hb01.size
  have hvz := (HV.out.keep hb1).alloc (.cells (enc_job zero_of_job).toArray 92)
  obtain ⟨hzc, hzf⟩ := var_job hvz
  have z0 := hzc 0 _ rfl; have z1 := hzc 1 _ rfl; have z2 := hzc 2 _ rfl
  obtain ⟨hxc, _⟩ := var_job (x := zero_of_job) (Blk.new w1 92 (enc_job zero_of_job).toArray (0, 0))
  have c0 := hxc 0 _ rfl; have c1 := hxc 1 _ rfl; have c2 := hxc 2 _ rfl
  have hb2 : Below w.heap.size w (w1.alloc (.cells (enc_job zero_of_job).toArray 92)) := hb01.alloc hs01 _
  have HB2 := Lib.hid hb2
  unfold enc_job zero_of_job at z0 z1 z2 c0 c1 c2 hzf
  clear hzc hxc hb2 hvz hb1 hb01 hb0
  go_wp2_with fail
  refine bodyPost_ret (v := .tuple #[.agg #[.pointer none, .bool false, .string ⟨#[]⟩], .bool false]) (by simp [results, Tryd.results84, go_sem, z0, z1, z2]; try rfl) rfl ⟨rfl, ?_⟩
  exact ((HB2.out.setCell (Nat.le_refl _) _).setCell (Nat.le_refl _) _).setCell (Nat.le_refl _) _

set_option maxHeartbeats 2000000 in
set_option maxRecDepth 100000 in
theorem pop_some_job (w : World) (p : Nat) (v : Value) (l : List (Option Addr × Bool × ByteArray)) (x : (Option Addr × Bool × ByteArray)) (h : Pile_job w p v (l ++ [x])) :
    Calls Tryd.prog 65 #[.pointer (some ⟨p, 0, none⟩)] w fun e w' => ∃ v', e = .returned (.tuple #[val_job x, .bool true]) ∧ Pile_job w' p v' l ∧ But (foot p v) w w' ∧ v'.ownBlock = v.ownBlock := by
  have hb0 : Below w.heap.size w (w.alloc (.cells #[.pointer none, .bool false, .string ⟨#[]⟩] 92)) := (Below.refl _ _).alloc (Nat.le_refl _) _
  have h' := h.keep hb0
  have hC := cut_in_job _ p v (l ++ [x]) l.length x h' (by simp)
  rw [show cutL (l ++ [x]) l.length = l by simp [cutL]] at hC
  have hrow := h.row
  rw [show (l ++ [x]).length = l.length + 1 by simp] at hrow
  obtain ⟨g, cap, rest, hv, _, _, hnc, hcm, _⟩ := own_parts hrow (by omega)
  have h0 : (w.alloc (.cells #[.pointer none, .bool false, .string ⟨#[]⟩] 92)).cell? ⟨p, 0, none⟩ = some v := h'.cell.cell 0
  have hv0 : Blk (w.alloc (.cells #[.pointer none, .bool false, .string ⟨#[]⟩] 92)) w.heap.size 92 (enc_job zero_of_job).toArray (0, 0) := Blk.new w _ _ _
  have hnf : ¬ foot p v w.heap.size := fun hk => by have := h.lt hk; omega
  have s1 : IntKind.i64.wrap ((l.length : Int) + 1 - 1) = (l.length : Int) := by
    rw [show (l.length : Int) + 1 - 1 = (l.length : Int) by omega]
    exact IntWalk.i64_in _ (by simp only [maxLen] at hcm; omega)
  have s2 : IntKind.i64.wrap ((l.length : Int)) = (l.length : Int) := IntWalk.i64_in _ (by simp only [maxLen] at hcm; omega)
  have HC := Lib.hid hC
  have HV := Lib.hid hv0
  have HB := Lib.hid hb0
  have HNF := Lib.hid hnf
  clear h hC hrow h' hv0 hb0 hnf
  subst hv
  go_enter Tryd.func65, Tryd.ntmps65
  go_wp2_with fail
  refine HC.out.mono ?_
  rintro e w1 ⟨v1, rfl, hst, hb, hv1⟩
  have hvz : Blk w1 w.heap.size 92 (enc_job zero_of_job).toArray (0, 0) := HV.out.but hb HNF.out
  obtain ⟨hzc, hzf⟩ := var_job hvz
  have z0 := hzc 0 _ rfl; have z1 := hzc 1 _ rfl; have z2 := hzc 2 _ rfl
  have hfo : ∀ k, foot p v1 k → ¬ k = w.heap.size := fun k hk e => HNF.out (by
    subst e
    rcases hk with hk | hk
    · exact .inl hk
    · exact .inr (hv1 ▸ hk))
  have HS := Lib.hid hst
  have HB1 := Lib.hid ((But.of_below (S := foot p (.slice (some ⟨g, 0, none⟩) (l.length + 1) cap)) HB.out).trans hb (fun k hk => .inl hk))
  clear hzc hvz hst hb
  simp only [val_job]
  go_wp2_with fail
  refine bodyPost_ret (v := .tuple #[val_job x, .bool true]) (by simp [results, Tryd.results65, go_sem, val_job, z0, z1, z2]) rfl
    ⟨_, rfl, HS.out.but (set3_but _ _ _ _ _) hfo, HB1.out.trans (set3_but _ _ _ _ _) (fun k hk => .inr (by omega)), hv1⟩

set_option maxHeartbeats 2000000 in
set_option maxRecDepth 100000 in
theorem pop_none_job (w : World) (p : Nat) (v : Value) (h : Pile_job w p v []) :
    Calls Tryd.prog 65 #[.pointer (some ⟨p, 0, none⟩)] w fun e w' => e = .returned (.tuple #[.agg #[.pointer none, .bool false, .string ⟨#[]⟩], .bool false]) ∧ Below w.heap.size w w' := by
  have hb0 : Below w.heap.size w (w.alloc (.cells #[.pointer none, .bool false, .string ⟨#[]⟩] 92)) := (Below.refl _ _).alloc (Nat.le_refl _) _
  have h' := h.keep hb0
  have hC := cut_out_job _ p v [] (-1) h' rfl
  obtain ⟨A, c, rfl, hc, _, _⟩ := own_rd h'.row (row_one encOk_job [])
  have h0 : (w.alloc (.cells #[.pointer none, .bool false, .string ⟨#[]⟩] 92)).cell? ⟨p, 0, none⟩ = some (.slice A 0 c) := h'.cell.cell 0
  have hv0 : Blk (w.alloc (.cells #[.pointer none, .bool false, .string ⟨#[]⟩] 92)) w.heap.size 92 (enc_job zero_of_job).toArray (0, 0) := Blk.new w _ _ _
  have HV := Lib.hid hv0
  have HB := Lib.hid hb0
  clear h h' hv0 hb0
  go_enter Tryd.func65, Tryd.ntmps65
  go_wp2_with fail
  refine hC.mono ?_
  rintro e w1 ⟨rfl, hb1⟩
  obtain ⟨hzc, hzf⟩ := var_job (HV.out.keep hb1)
  have z0 := hzc 0 _ rfl; have z1 := hzc 1 _ rfl; have z2 := hzc 2 _ rfl
  have HB2 := Lib.hid (HB.out.trans (hb1.mono HB.out.size))
  clear hzc hb1
  go_wp2_with fail
  refine bodyPost_ret (v := .tuple #[.agg #[.pointer none, .bool false, .string ⟨#[]⟩], .bool false]) (by simp [results, Tryd.results65, go_sem, z0, z1, z2]) rfl ⟨rfl, ?_⟩
  exact ((HB2.out.setCell (Nat.le_refl _) _).setCell (Nat.le_refl _) _).setCell (Nat.le_refl _) _

end Go.Proofs.YtojpedgfllgbcaaDoor
