/- A pile of item (structs): Set, Put. -/
import Derived.Test.YtoehpladbdefkaaStkItem
import Derived.Test.YtoehpladbdefkaaRow4
import Derived.Deep.RegionWith
import Derived.Deep.DeepCutAuto
import Derived.Deep.CutBlock
namespace Go.Proofs.Ytoehpladbdefkaa
open Go.RowKit

set_option maxHeartbeats 2000000 in
set_option maxRecDepth 100000 in
theorem set_in_item (w : World) (p : Nat) (v : Value) (l : List It) (j : Nat) (x : It) (h : Pile_item w p v l) (hj : j < l.length) :
    Calls Try.prog 123 #[.pointer (some ⟨p, 0, none⟩), .int .i64 (j : Int), val_item x] w fun e w' => e = .returned (.bool true) ∧ Pile_item w' p v (l.set j x) ∧ But (foot p v) w w' := by
  have hb0 : Below w.heap.size w (w.alloc (.cells (enc_item x).toArray 50)) := (Below.refl _ _).alloc (Nat.le_refl _) _
  have hI := is_item _ p v l (j : Int) (h.keep hb0)
  rw [getL_nat, List.getElem?_eq_getElem hj] at hI
  simp only [Option.isSome_some] at hI
  obtain ⟨g, cap, rest, hv, _, hb, hnc, hcm, hrl⟩ := own_parts h.row (by omega)
  have hglt : g < w.heap.size := owns_lt h.row (by rw [hv]; rfl)
  have hlen := row_len encOk_item l
  have h0 : (w.alloc (.cells (enc_item x).toArray 50)).cell? ⟨p, 0, none⟩ = some v := (h.keep hb0).cell.cell 0
  have h0w : w.cell? ⟨p, 0, none⟩ = some v := h.cell.cell 0
  obtain ⟨hvc, hvf⟩ := var_item (x := x) (Blk.new w 50 (enc_item x).toArray (0, 0))
  have c0 := hvc 0 _ rfl; have c1 := hvc 1 _ rfl; have c2 := hvc 2 _ rfl; have c3 := hvc 3 _ rfl
  have hc : ∀ k, k < l.length * 4 → (w.cell? ⟨g, k, none⟩).isSome = true := fun k hk => by
    rw [hb.cell, List.getElem?_toArray, List.getElem?_append_left (by omega), List.getElem?_eq_getElem (by omega)]; rfl
  obtain ⟨y0, hy0⟩ := Option.isSome_iff_exists.1 (hc (j * 4) (by omega))
  obtain ⟨y1, hy1⟩ := Option.isSome_iff_exists.1 (hc (j * 4 + 1) (by omega))
  obtain ⟨y2, hy2⟩ := Option.isSome_iff_exists.1 (hc (j * 4 + 2) (by omega))
  obtain ⟨y3, hy3⟩ := Option.isSome_iff_exists.1 (hc (j * 4 + 3) (by omega))
  have f0 := hb.frozen (j * 4) (.inr (Nat.zero_le _))
  have f1 := hb.frozen (j * 4 + 1) (.inr (Nat.zero_le _))
  have f2 := hb.frozen (j * 4 + 2) (.inr (Nat.zero_le _))
  have f3 := hb.frozen (j * 4 + 3) (.inr (Nat.zero_le _))
  have hne : g ≠ p := fun e => h.apart (by rw [hv, e]; rfl)
  have KEY : ∀ u0 u1 u2 u3, enc_item x = [u0, u1, u2, u3] → Pile_item (((((w.setCell ⟨g, j * 4, none⟩ u0).setCell ⟨g, j * 4 + 1, none⟩ u1).setCell ⟨g, j * 4 + 2, none⟩ u2).setCell ⟨g, j * 4 + 3, none⟩ u3).alloc (.cells #[u0, u1, u2, u3] 50)).drew p v (l.set j x) ∧
      But (foot p v) w (((((w.setCell ⟨g, j * 4, none⟩ u0).setCell ⟨g, j * 4 + 1, none⟩ u1).setCell ⟨g, j * 4 + 2, none⟩ u2).setCell ⟨g, j * 4 + 3, none⟩ u3).alloc (.cells #[u0, u1, u2, u3] 50)).drew := fun u0 u1 u2 u3 hu => by
    have hb' := own_set4 u0 u1 u2 u3 hb (k := j * 4) (by omega)
    rw [row_set4 encOk_item l j x hj u0 u1 u2 u3 hu] at hb'
    have hf : foot p v g := .inr (by rw [hv]; rfl)
    have hP : Pile_item ((((w.setCell ⟨g, j * 4, none⟩ u0).setCell ⟨g, j * 4 + 1, none⟩ u1).setCell ⟨g, j * 4 + 2, none⟩ u2).setCell ⟨g, j * 4 + 3, none⟩ u3) p v (l.set j x) := by
      refine ⟨((((Blk.far h.cell (p := ⟨g, j * 4, none⟩) (Ne.symm hne) _).far (p := ⟨g, j * 4 + 1, none⟩) (Ne.symm hne) _).far (p := ⟨g, j * 4 + 2, none⟩) (Ne.symm hne) _).far (p := ⟨g, j * 4 + 3, none⟩) (Ne.symm hne) _), ?_, h.apart⟩
      rw [hv, List.length_set]
      exact own_of_blk (Nat.zero_le _) hb' (by rw [row_len encOk_item, List.length_set]) hnc hcm hrl
    refine ⟨hP.keep (((Below.refl _ _).alloc (Nat.le_refl _) _).drew), ?_⟩
    exact ((((((But.refl _ w).setCell _ _ (.inl hf)).setCell _ _ (.inl hf)).setCell _ _ (.inl hf)).setCell _ _ (.inl hf)).alloc _).drew
  have HK := Lib.hid (KEY _ _ _ _ rfl)
  have HI := Lib.hid hI
  clear h hI hb hlen hc hvc hvf KEY hb0 hnc hcm hrl
  subst hv
  unfold enc_item at *
  unfold val_item at *
  have i0 : (0 : Int) ≤ (j : Int) := by omega
  have i1 : (j : Int) < (l.length : Int) := by omega
  go_enter Try.func123, Try.ntmps123
  go_wp2_with fail
  refine HI.out.mono ?_
  rintro e w1 ⟨rfl, rfl⟩
  go_upto_region 3 with (fail)
  go_region_with (fail)
  all_goals
    go_wp2_with fail
    go_ret
    exact ⟨rfl, HK.out⟩

set_option maxHeartbeats 1000000 in
theorem set_out_item (w : World) (p : Nat) (v : Value) (l : List It) (i : Int) (x : It) (h : Pile_item w p v l) (hi : getL l i = none) :
    Calls Try.prog 123 #[.pointer (some ⟨p, 0, none⟩), .int .i64 i, val_item x] w fun e w' => e = .returned (.bool false) ∧ Below w.heap.size w w' := by
  have hb0 : Below w.heap.size w (w.alloc (.cells (enc_item x).toArray 50)) := (Below.refl _ _).alloc (Nat.le_refl _) _
  have hI := is_item _ p v l i (h.keep hb0)
  rw [hi] at hI
  simp only [Option.isSome_none] at hI
  have HB := Lib.hid hb0
  have HI := Lib.hid hI
  clear h hb0 hI
  unfold enc_item at *
  unfold val_item
  go_enter Try.func123, Try.ntmps123
  go_wp2_with fail
  refine HI.out.mono ?_
  rintro e w1 ⟨rfl, rfl⟩
  go_wp2_with fail
  go_ret
  exact ⟨rfl, HB.out⟩

set_option maxHeartbeats 2000000 in
set_option maxRecDepth 100000 in
theorem put_in_item (w : World) (p : Nat) (v : Value) (l : List It) (i : Nat) (x : It) (h : Pile_item w p v l) (hi : i ≤ l.length) (hsz : (l.length + 1) * 56 ≤ 140737488355328) :
    Calls Try.prog 124 #[.pointer (some ⟨p, 0, none⟩), .int .i64 (i : Int), val_item x] w fun e w' => ∃ v', e = .returned (.bool true) ∧ Pile_item w' p v' (putL l i x) ∧ But (foot p v) w w' ∧ Grown w v v' := by
  obtain ⟨A, c, hv, hc, _, _⟩ := own_rd h.row (row_one encOk_item l)
  have hb0 : Below w.heap.size w (w.alloc (.cells (enc_item x).toArray 50)) := (Below.refl _ _).alloc (Nat.le_refl _) _
  have h0 : (w.alloc (.cells (enc_item x).toArray 50)).cell? ⟨p, 0, none⟩ = some v := (h.keep hb0).cell.cell 0
  obtain ⟨hvc, hvf⟩ := var_item (x := x) (Blk.new w 50 (enc_item x).toArray (0, 0))
  have c0 := hvc 0 _ rfl; have c1 := hvc 1 _ rfl; have c2 := hvc 2 _ rfl; have c3 := hvc 3 _ rfl
  clear hvc hvf
  have hb1 : Below w.heap.size w ((w.alloc (.cells (enc_item x).toArray 50)).drew.alloc (.cells (enc_item x).toArray 50)) := hb0.drew.alloc (by simp) _
  have hown : ((w.alloc (.cells (enc_item x).toArray 50)).drew.alloc (.cells (enc_item x).toArray 50)).ownsRow 0 50 4 v l.length (l.flatMap enc_item) :=
    owns_but h.row (But.of_below hb1) (S := fun _ => False) (fun _ _ h => h)
  have hbb : Blk ((w.alloc (.cells (enc_item x).toArray 50)).drew.alloc (.cells (enc_item x).toArray 50)) (w.heap.size + 1) 50 (enc_item x).toArray (0, 0) := by
    have := Blk.new (w.alloc (.cells (enc_item x).toArray 50)).drew 50 (enc_item x).toArray (0, 0)
    simpa using this
  have hins := insert_item 0 l.length i (w.heap.size + 1) v _ _ _ hown (row_one encOk_item l) (Nat.zero_le _) hbb (encOk_item x).1 (fun e => by have := owns_lt h.row e; omega) (encOk_item x).2 hi hsz
  rw [row_take encOk_item, row_drop encOk_item] at hins
  have h01 : ((w.alloc (.cells (enc_item x).toArray 50)).alloc (.cells (enc_item x).toArray 50)).cell? ⟨p, 0, none⟩ = some v := (h.keep (hb0.alloc (by simp) (.cells (enc_item x).toArray 50))).cell.cell 0
  have HH := Lib.hid h
  have HI := Lib.hid hins
  have HB1 := Lib.hid hb1
  have d1 : decide ((i : Int) < 0) = false := decide_eq_false (by omega)
  have d2 : decide ((i : Int) > (l.length : Int)) = false := decide_eq_false (by omega)
  clear hown hins hbb hb1 h hb0
  unfold enc_item at h0 h01 c0 c1 c2 c3
  subst hv
  unfold val_item
  go_enter Try.func124, Try.ntmps124
  go_upto_region 3 with (fail)
  go_region_with ((
    go_at_call 135
    refine HI.out.mono ?_
    rintro e w1 ⟨v1, rfl, hown1, hg1, hat1⟩
    obtain ⟨A1, cap1, hv1, k0, f0, HS, HB, HG, _⟩ := stored_after (l1 := putL l i x) encOk_item HH.out HB1.out hown1 hg1 hat1 (putL_len _ _ _ hi).symm (by unfold putL; rw [List.flatMap_append, List.flatMap_cons]; simp)
    clear hown1 hg1 hat1
    subst hv1))
  all_goals
    go_wp2_with fail
    go_ret
    exact ⟨_, rfl, HS.out, HB.out, HG.out⟩
end Go.Proofs.Ytoehpladbdefkaa
