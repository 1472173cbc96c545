/- A pile of str: the methods of stack.Stack, each with what it answers. -/
import Derived.Test.YtafinbcmelpieaaOwn
import Derived.Test.YtafinbcmelpieaaSlStr
namespace Go.Proofs.Ytafinbcmelpieaa
open Go.RowKit

def enc_str : ByteArray → List Value := fun x => [.string x]
def val_str : ByteArray → Value := fun x => .string x
theorem encOk_str : EncOk enc_str 1 := fun x => ⟨rfl, fun u hu => List.all_eq_true.1 (show (enc_str x).all (fun u => u.oneCell') = true from rfl) u hu⟩
abbrev Pile_str (w : World) (p : Nat) (v : Value) (l : List ByteArray) : Prop := Stk 72 9 1 enc_str w p v l

theorem new_str (w : World) :
    Calls Try.prog 34 #[] w fun e w' => e = .returned (.pointer (some ⟨w.heap.size, 0, none⟩)) ∧ Pile_str w' w.heap.size (.slice none 0 0) [] ∧ Below w.heap.size w w' := by
  go_enter Try.func34, Try.ntmps34
  go_wp2
  go_ret
  exact ⟨rfl, ⟨Blk.new w _ _ _, World.ownsRow_nil _ _ _ _, fun h => by cases h⟩, (Below.refl _ _).alloc (Nat.le_refl _) _⟩

theorem len_str (w : World) (p : Nat) (v : Value) (l : List ByteArray) (h : Pile_str w p v l) :
    Calls Try.prog 56 #[.pointer (some ⟨p, 0, none⟩)] w fun e w' => e = .returned (.int .i64 (l.length : Int)) ∧ w = w' := by
  obtain ⟨A, c, rfl, hc, _, _⟩ := own_rd h.row (row_one encOk_str l)
  have h0 : w.cell? ⟨p, 0, none⟩ = some (.slice A l.length c) := h.cell.cell 0
  go_enter Try.func56, Try.ntmps56
  go_wp2
  go_ret
  exact ⟨rfl, rfl⟩

theorem is_str (w : World) (p : Nat) (v : Value) (l : List ByteArray) (i : Int) (h : Pile_str w p v l) :
    Calls Try.prog 76 #[.pointer (some ⟨p, 0, none⟩), .int .i64 i] w fun e w' => e = .returned (.bool (getL l i).isSome) ∧ w = w' := by
  obtain ⟨A, c, rfl, hc, _, _⟩ := own_rd h.row (row_one encOk_str l)
  have h0 : w.cell? ⟨p, 0, none⟩ = some (.slice A l.length c) := h.cell.cell 0
  rw [getL_isSome]
  clear h hc
  by_cases hi : 0 ≤ i
  · have d1 : decide (i ≥ 0) = true := decide_eq_true hi
    rw [show decide (0 ≤ i) = true from d1, Bool.true_and]
    go_enter Try.func76, Try.ntmps76
    go_wp2
    go_ret
    exact ⟨rfl, rfl⟩
  · have d1 : decide (i ≥ 0) = false := decide_eq_false hi
    rw [show decide (0 ≤ i) = false from d1, Bool.false_and]
    go_enter Try.func76, Try.ntmps76
    go_wp2
    go_ret
    exact ⟨rfl, rfl⟩

theorem at_str (w : World) (p : Nat) (v : Value) (l : List ByteArray) (i : Int) (h : Pile_str w p v l) :
    Calls Try.prog 63 #[.pointer (some ⟨p, 0, none⟩), .int .i64 i] w fun e w' => e = .returned (.tuple #[(getL l i).elim (.string ByteArray.empty) val_str, .bool (getL l i).isSome]) ∧ w = w' := by
  have hI := is_str w p v l i h
  rcases hg : getL l i with _ | x
  · rw [hg] at hI
    simp only [Option.isSome_none, Option.elim] at hI ⊢
    go_enter Try.func63, Try.ntmps63
    go_wp2_with fail
    refine hI.mono ?_
    rintro e w' ⟨rfl, rfl⟩
    go_wp2_with fail
    go_ret2
    exact ⟨rfl, rfl⟩
  · rw [hg] at hI
    obtain ⟨j, rfl, hj, hx⟩ := getL_some hg
    obtain ⟨g, cap, rest, rfl, _, hb, hnc, _, _⟩ := own_parts h.row (by omega)
    have h0 : w.cell? ⟨p, 0, none⟩ = some (.slice (some ⟨g, 0, none⟩) l.length cap) := h.cell.cell 0
    have hc : ∀ k u, (enc_str x)[k]? = some u → w.cell? ⟨g, j * 1 + k, none⟩ = some u := fun k u hu => by
      rw [hb.cell]
      have hr := row_at encOk_str l j k x u hx hu
      simp only [List.getElem?_toArray]
      rw [List.getElem?_append_left (List.getElem?_eq_some_iff.1 hr).1]
      exact hr
    have c0 := hc 0 _ rfl; simp only [Nat.mul_one, Nat.add_zero] at c0
    clear hc
    simp only [Option.isSome_some, Option.elim] at hI ⊢
    go_enter Try.func63, Try.ntmps63
    go_wp2_with fail
    refine hI.mono ?_
    rintro e w' ⟨rfl, rfl⟩
    go_wp2_with fail
    go_ret2
    exact ⟨rfl, rfl⟩

theorem top_str (w : World) (p : Nat) (v : Value) (l : List ByteArray) (hl : l.length ≤ 9223372036854775807) (h : Pile_str w p v l) :
    Calls Try.prog 62 #[.pointer (some ⟨p, 0, none⟩)] w fun e w' => e = .returned (.tuple #[(l.getLast?).elim (.string ByteArray.empty) val_str, .bool (l.getLast?).isSome]) ∧ w = w' := by
  have hA := at_str w p v l ((l.length : Int) - 1) h
  rw [getL_last] at hA
  obtain ⟨A, c, rfl, hc, _, _⟩ := own_rd h.row (row_one encOk_str l)
  have h0 : w.cell? ⟨p, 0, none⟩ = some (.slice A l.length c) := h.cell.cell 0
  have s1 : IntKind.i64.wrap ((l.length : Int) - 1) = (l.length : Int) - 1 := IntWalk.i64_in _ (by omega)
  go_enter Try.func62, Try.ntmps62
  go_wp2_with fail
  refine hA.mono ?_
  rintro e w' ⟨rfl, rfl⟩
  go_wp2_with fail
  go_ret2
  exact ⟨rfl, rfl⟩

theorem push_after_str (w w1 : World) (p : Nat) (A : Option Addr) (c : Nat) (v1 : Value) (l : List ByteArray) (x : ByteArray) (HH : Hid (Pile_str w p (.slice A l.length c) l)) (hplt : p < w.heap.size)
    (hown1 : w1.ownsRow 0 9 1 v1 (l.length + 1) (l.flatMap enc_str ++ enc_str x)) (hg1 : (w.alloc (.cells (enc_str x).toArray 9)).grownBy w1 (Value.slice A l.length c).ownBlock)
    (hat1 : v1.ownBlock = (Value.slice A l.length c).ownBlock ∨ v1.ownBlock = some (w.alloc (.cells (enc_str x).toArray 9)).heap.size) :
    ∃ g1 cap1, v1 = .slice (some ⟨g1, 0, none⟩) (l.length + 1) cap1 ∧ w1.cell? ⟨p, 0, none⟩ = some (.slice A l.length c) ∧ w1.frozen? ⟨p, 0, none⟩ = false ∧
      Hid (Pile_str (w1.setCell ⟨p, 0, none⟩ v1) p v1 (l ++ [x])) ∧ Hid (But (foot p (.slice A l.length c)) w (w1.setCell ⟨p, 0, none⟩ v1)) ∧ Hid (Grown w (.slice A l.length c) v1) := by
  have h := HH.out
  have hbut1 : But (foot p (.slice A l.length c)) w w1 := ((But.refl (foot p (.slice A l.length c)) w).alloc (.cells (enc_str x).toArray 9)).trans (S1 := fun k => (Value.slice A l.length c).ownBlock = some k) (But.of_grown hg1 (fun k hk => hk)) (fun k hk => .inl (.inr hk))
  have hcell1 : Blk w1 p 72 #[.slice A l.length c] (0, 0) := (Blk.alloc h.cell (.cells (enc_str x).toArray 9)).but (S := fun k => (Value.slice A l.length c).ownBlock = some k) (But.of_grown hg1 (fun k hk => hk)) (fun e => h.apart e)
  have hne : v1.ownBlock ≠ some p := by
    rcases hat1 with e | e
    · rw [e]; exact h.apart
    · rw [e]; simp; omega
  have hgr : Grown w (.slice A l.length c) v1 := by
    rcases hat1 with e | e
    · exact .inl e
    · exact .inr ⟨_, by simp, e⟩
  have hst : Pile_str (w1.setCell ⟨p, 0, none⟩ v1) p v1 (l ++ [x]) := stk_stored hcell1 hown1 hne (by simp) (by rw [List.flatMap_append]; simp)
  have hbut2 : But (foot p (.slice A l.length c)) w (w1.setCell ⟨p, 0, none⟩ v1) := hbut1.setCell _ _ (.inl (.inl rfl))
  obtain ⟨g1, cap1, rest1, hv1, _, _, _, _, _⟩ := own_parts hown1 (by omega)
  exact ⟨g1, cap1, hv1, hcell1.cell 0, hcell1.frozen 0 (.inr (Nat.zero_le _)), Lib.hid hst, Lib.hid hbut2, Lib.hid hgr⟩

set_option maxHeartbeats 1000000 in
theorem push_str (w : World) (p : Nat) (v : Value) (l : List ByteArray) (x : ByteArray) (h : Pile_str w p v l) (hsz : (l.length + 1) * 16 ≤ 140737488355328) :
    Calls Try.prog 52 #[.pointer (some ⟨p, 0, none⟩), val_str x] w fun e w' => ∃ v', e = .returned (.tuple #[]) ∧ Pile_str w' p v' (l ++ [x]) ∧ But (foot p v) w w' ∧ Grown w v v' := by
  obtain ⟨i0, hi0, hz0, hz1, hz2⟩ := info_parts info_str
  obtain ⟨A, c, hv, hc, _, _⟩ := own_rd h.row (row_one encOk_str l)
  have h0 : w.cell? ⟨p, 0, none⟩ = some v := h.cell.cell 0
  have hplt := h.cell.lt
  have hown : (w.alloc (.cells (enc_str x).toArray 9)).ownsRow 0 9 1 v l.length (l.flatMap enc_str) :=
    owns_but h.row ((But.refl (fun _ => False) w).alloc _) (fun _ _ h => h)
  have hb1 : Blk (w.alloc (.cells (enc_str x).toArray 9)) w.heap.size 9 (enc_str x).toArray (0, 0) := Blk.new w _ _ _
  have hcx : ∀ j u, (enc_str x)[j]? = some u → (w.alloc (.cells (enc_str x).toArray 9)).cell? ((⟨w.heap.size, 0, none⟩ : Addr).add j) = some u := by
    intro j u hu
    rw [add0, hb1.cell j]
    simpa using hu
  have HH := Lib.hid h
  have HO := Lib.hid hown
  have HC := Lib.hid hcx
  have H2 := Lib.hid (encOk_str x).2
  clear hown hcx hb1 h
  subst hv
  (try unfold val_str)
  go_enter Try.func52, Try.ntmps52
  go_wp2_with (first
    | (at_builtin
       refine wpList_append_own_at _ rfl (.tmp 8) (.tmp 10) _ rfl 0 9 i0 _ 1 16 Try.underlying31 hi0 hz0 hz1 hz2 rfl (by omega) _ _ _ rfl HO.out ⟨w.heap.size, 0, none⟩ 1 1 (enc_str x) rfl rfl HC.out H2.out (by simp only [maxLen]; omega) (by omega) (Nat.zero_le _) ?_
       intro v1 w1 hown1 hg1 _ hat1
       obtain ⟨g1, cap1, hv1, k0, f0, HS, HB, HG⟩ := push_after_str w w1 p A c v1 l x HH hplt hown1 hg1 hat1
       clear hown1 hg1 hat1
       subst hv1))
  go_end0
  exact ⟨_, rfl, HS.out, HB.out, HG.out⟩

set_option maxHeartbeats 1000000 in
theorem put_in_str (w : World) (p : Nat) (v : Value) (l : List ByteArray) (i : Nat) (x : ByteArray) (h : Pile_str w p v l) (hi : i ≤ l.length) (hsz : (l.length + 1) * 16 ≤ 140737488355328) :
    Calls Try.prog 53 #[.pointer (some ⟨p, 0, none⟩), .int .i64 (i : Int), val_str x] w fun e w' => ∃ v', e = .returned (.bool true) ∧ Pile_str w' p v' (putL l i x) ∧ But (foot p v) w w' ∧ Grown w v v' := by
  obtain ⟨A, c, hv, hc, _, _⟩ := own_rd h.row (row_one encOk_str l)
  have h0 : w.cell? ⟨p, 0, none⟩ = some v := h.cell.cell 0
  have hplt := h.cell.lt
  have hown : (w.alloc (.cells (enc_str x).toArray 9)).ownsRow 0 9 1 v l.length (l.flatMap enc_str) :=
    owns_but h.row ((But.refl (fun _ => False) w).alloc _) (fun _ _ h => h)
  have hb1 : Blk (w.alloc (.cells (enc_str x).toArray 9)) w.heap.size 9 (enc_str x).toArray (0, 0) := Blk.new w _ _ _
  have hins := insert_str 0 l.length i w.heap.size v _ _ _ hown (row_one encOk_str l) (Nat.zero_le _) hb1 (encOk_str x).1 (fun e => by have := owns_lt h.row e; omega) (encOk_str x).2 hi hsz
  rw [row_take encOk_str, row_drop encOk_str] at hins
  have HH := Lib.hid h
  have HI := Lib.hid hins
  clear hown hins hb1 h
  subst hv
  unfold val_str
  have d1 : decide ((i : Int) < 0) = false := decide_eq_false (by omega)
  have d2 : decide ((i : Int) > (l.length : Int)) = false := decide_eq_false (by omega)
  go_enter Try.func53, Try.ntmps53
  go_wp2_with fail
  refine HI.out.mono ?_
  rintro e w1 ⟨v1, rfl, hown1, hg1, hat1⟩
  have h := HH.out
  have hbut1 : But (foot p (.slice A l.length c)) w w1 := ((But.refl (foot p (.slice A l.length c)) w).alloc (.cells (enc_str x).toArray 9)).trans (S1 := fun k => (Value.slice A l.length c).ownBlock = some k) (But.of_grown hg1 (fun k hk => hk)) (fun k hk => .inl (.inr hk))
  have hcell1 : Blk w1 p 72 #[.slice A l.length c] (0, 0) := (Blk.alloc h.cell (.cells (enc_str x).toArray 9)).but (S := fun k => (Value.slice A l.length c).ownBlock = some k) (But.of_grown hg1 (fun k hk => hk)) (fun e => h.apart e)
  have hne : v1.ownBlock ≠ some p := by
    rcases hat1 with e | e
    · rw [e]; exact h.apart
    · rw [e]; simp; omega
  have hgr : Grown w (.slice A l.length c) v1 := by
    rcases hat1 with e | e
    · exact .inl e
    · exact .inr ⟨_, by simp, e⟩
  have hst : Pile_str (w1.setCell ⟨p, 0, none⟩ v1) p v1 (putL l i x) := stk_stored hcell1 hown1 hne (putL_len _ _ _ hi).symm (by unfold putL; rw [List.flatMap_append, List.flatMap_cons]; simp)
  have hbut2 : But (foot p (.slice A l.length c)) w (w1.setCell ⟨p, 0, none⟩ v1) := hbut1.setCell _ _ (.inl (.inl rfl))
  obtain ⟨g1, cap1, rest1, hv1, _, _, _, _, _⟩ := own_parts hown1 (by omega)
  have k0 := hcell1.cell 0
  have f0 := hcell1.frozen 0 (.inr (Nat.zero_le _))
  have HS := Lib.hid hst
  have HB := Lib.hid hbut2
  have HG := Lib.hid hgr
  clear h hown1 hg1 hat1 hbut1 hcell1 hne hst hbut2 hgr
  subst hv1
  go_wp2
  go_ret
  exact ⟨_, rfl, HS.out, HB.out, HG.out⟩

theorem put_out_str (w : World) (p : Nat) (v : Value) (l : List ByteArray) (i : Int) (x : ByteArray) (h : Pile_str w p v l) (hi : i < 0 ∨ (l.length : Int) < i) :
    Calls Try.prog 53 #[.pointer (some ⟨p, 0, none⟩), .int .i64 i, val_str x] w fun e w' => e = .returned (.bool false) ∧ w = w' := by
  obtain ⟨A, c, rfl, hc, _, _⟩ := own_rd h.row (row_one encOk_str l)
  have h0 : w.cell? ⟨p, 0, none⟩ = some (.slice A l.length c) := h.cell.cell 0
  clear h hc
  unfold val_str
  by_cases h1 : i < 0
  · have d1 : decide (i < 0) = true := decide_eq_true h1
    go_enter Try.func53, Try.ntmps53
    go_wp2
    go_ret
    exact ⟨rfl, rfl⟩
  · have d1 : decide (i < 0) = false := decide_eq_false h1
    have d2 : decide (i > (l.length : Int)) = true := decide_eq_true (by omega)
    go_enter Try.func53, Try.ntmps53
    go_wp2
    go_ret
    exact ⟨rfl, rfl⟩

set_option maxHeartbeats 1000000 in
theorem cut_in_str (w : World) (p : Nat) (v : Value) (l : List ByteArray) (j : Nat) (x : ByteArray) (h : Pile_str w p v l) (hx : l[j]? = some x) :
    Calls Try.prog 61 #[.pointer (some ⟨p, 0, none⟩), .int .i64 (j : Int)] w fun e w' => ∃ v', e = .returned (.tuple #[val_str x, .bool true]) ∧ Pile_str w' p v' (cutL l j) ∧ But (foot p v) w w' ∧ v'.ownBlock = v.ownBlock := by
  have hj : j < l.length := (List.getElem?_eq_some_iff.1 hx).1
  have hA := at_str w p v l (j : Int) h
  rw [getL_nat, hx] at hA
  simp only [Option.isSome_some, Option.elim] at hA
  obtain ⟨m, hm⟩ : ∃ m, l.length = m + 1 := ⟨l.length - 1, by omega⟩
  have hrow := h.row
  rw [hm] at hrow
  have hdel := delete_str 0 m j v _ w hrow (row_one encOk_str l) (by omega)
  rw [row_take encOk_str, row_drop encOk_str] at hdel
  obtain ⟨g, cap, rest, hv, _, hb, hnc, hcm, _⟩ := own_parts hrow (by omega)
  have h0 : w.cell? ⟨p, 0, none⟩ = some v := h.cell.cell 0
  have s1 : IntKind.i64.wrap ((j : Int) + 1) = (j : Int) + 1 := IntWalk.i64_in _ (by simp only [maxLen] at hcm; omega)
  have HH := Lib.hid h
  have HD := Lib.hid hdel
  have HA := Lib.hid hA
  clear h hdel hA hrow hb
  subst hv
  (try unfold val_str)
  go_enter Try.func61, Try.ntmps61
  go_wp2_with fail
  refine HA.out.mono ?_
  rintro e w' ⟨rfl, rfl⟩
  go_wp2_with fail
  refine HD.out.mono ?_
  rintro e w1 ⟨v1, rfl, hown1, hg1, hat1⟩
  have h := HH.out
  have hbut1 : But (foot p (.slice (some ⟨g, 0, none⟩) (m + 1) cap)) w w1 := But.of_grown hg1 (fun k hk => .inr hk)
  have hcell1 : Blk w1 p 72 #[.slice (some ⟨g, 0, none⟩) (m + 1) cap] (0, 0) := h.cell.but (S := fun k => (Value.slice (some ⟨g, 0, none⟩) (m + 1) cap).ownBlock = some k) (But.of_grown hg1 (fun k hk => hk)) (fun e => h.apart e)
  have hne : v1.ownBlock ≠ some p := by rw [hat1]; exact h.apart
  have hst : Pile_str (w1.setCell ⟨p, 0, none⟩ v1) p v1 (cutL l j) := stk_stored hcell1 hown1 hne (by rw [cutL_len l j hj, hm]; rfl) (by unfold cutL; rw [List.flatMap_append])
  have hbut2 : But (foot p (.slice (some ⟨g, 0, none⟩) (m + 1) cap)) w (w1.setCell ⟨p, 0, none⟩ v1) := hbut1.setCell _ _ (.inl (.inl rfl))
  obtain ⟨A1, c1, hv1, _, _, _⟩ := own_rd hown1 (by rw [← List.flatMap_append]; exact row_one encOk_str _)
  have k0 := hcell1.cell 0
  have f0 := hcell1.frozen 0 (.inr (Nat.zero_le _))
  have HS := Lib.hid hst
  have HB := Lib.hid hbut2
  have HG := Lib.hid hat1
  clear h hown1 hg1 hat1 hbut1 hcell1 hne hst hbut2
  subst hv1
  go_wp2
  go_ret2
  exact ⟨_, rfl, HS.out, HB.out, HG.out⟩

theorem cut_out_str (w : World) (p : Nat) (v : Value) (l : List ByteArray) (i : Int) (h : Pile_str w p v l) (hx : getL l i = none) :
    Calls Try.prog 61 #[.pointer (some ⟨p, 0, none⟩), .int .i64 i] w fun e w' => e = .returned (.tuple #[.string ByteArray.empty, .bool false]) ∧ w = w' := by
  have hA := at_str w p v l i h
  rw [hx] at hA
  simp only [Option.isSome_none, Option.elim] at hA
  clear h
  go_enter Try.func61, Try.ntmps61
  go_wp2_with fail
  refine hA.mono ?_
  rintro e w' ⟨rfl, rfl⟩
  go_wp2_with fail
  go_ret2
  exact ⟨rfl, rfl⟩

theorem pop_some_str (w : World) (p : Nat) (v : Value) (l : List ByteArray) (x : ByteArray) (h : Pile_str w p v (l ++ [x])) :
    Calls Try.prog 59 #[.pointer (some ⟨p, 0, none⟩)] w fun e w' => ∃ v', e = .returned (.tuple #[val_str x, .bool true]) ∧ Pile_str w' p v' l ∧ But (foot p v) w w' ∧ v'.ownBlock = v.ownBlock := by
  have hC := cut_in_str w p v (l ++ [x]) l.length x h (by simp)
  rw [show cutL (l ++ [x]) l.length = l by simp [cutL]] at hC
  have hrow := h.row
  rw [show (l ++ [x]).length = l.length + 1 by simp] at hrow
  obtain ⟨g, cap, rest, hv, _, _, hnc, hcm, _⟩ := own_parts hrow (by omega)
  have h0 : w.cell? ⟨p, 0, none⟩ = some v := h.cell.cell 0
  have s1 : IntKind.i64.wrap ((l.length : Int) + 1 - 1) = (l.length : Int) := by
    rw [show (l.length : Int) + 1 - 1 = (l.length : Int) by omega]
    exact IntWalk.i64_in _ (by simp only [maxLen] at hcm; omega)
  have s2 : IntKind.i64.wrap ((l.length : Int)) = (l.length : Int) := IntWalk.i64_in _ (by simp only [maxLen] at hcm; omega)
  have HC := Lib.hid hC
  clear h hC hrow
  subst hv
  (try unfold val_str)
  go_enter Try.func59, Try.ntmps59
  go_wp2_with fail
  refine HC.out.mono ?_
  rintro e w1 ⟨v1, rfl, hst, hb, hv1⟩
  go_wp2_with fail
  go_ret2
  exact ⟨_, rfl, hst, hb, hv1⟩

theorem pop_none_str (w : World) (p : Nat) (v : Value) (h : Pile_str w p v []) :
    Calls Try.prog 59 #[.pointer (some ⟨p, 0, none⟩)] w fun e w' => e = .returned (.tuple #[.string ByteArray.empty, .bool false]) ∧ w = w' := by
  have hC := cut_out_str w p v [] (-1) h rfl
  obtain ⟨A, c, rfl, hc, _, _⟩ := own_rd h.row (row_one encOk_str [])
  have h0 : w.cell? ⟨p, 0, none⟩ = some (.slice A 0 c) := h.cell.cell 0
  clear h
  go_enter Try.func59, Try.ntmps59
  go_wp2_with fail
  refine hC.mono ?_
  rintro e w1 ⟨rfl, rfl⟩
  go_wp2_with fail
  go_ret2
  exact ⟨rfl, rfl⟩

set_option maxHeartbeats 1000000 in
theorem all_str (w : World) (p : Nat) (v : Value) (l : List ByteArray) (h : Pile_str w p v l) (hsz : l.length * 16 ≤ 140737488355328) :
    Calls Try.prog 55 #[.pointer (some ⟨p, 0, none⟩)] w fun e w' => ∃ v', e = .returned v' ∧ w'.ownsRow 0 9 1 v' l.length (l.flatMap enc_str) ∧ Below w.heap.size w w' ∧ (∀ g, v'.ownBlock = some g → w.heap.size ≤ g) := by
  rcases h.row.2 with ⟨rfl, h0⟩ | ⟨g, cap, cur, rfl, _⟩
  · have hc := h.cell.cell 0
    have hl : l = [] := List.eq_nil_of_length_eq_zero h0
    subst hl
    have hc0 : w.cell? ⟨p, 0, none⟩ = some (.slice none 0 0) := hc
    clear h hc
    go_enter Try.func55, Try.ntmps55
    go_wp2_with fail
    refine (clone_nil_str _).mono ?_
    rintro e w' ⟨rfl, rfl⟩
    go_wp2_with fail
    go_ret
    exact ⟨_, rfl, World.ownsRow_nil _ _ _ _, Below.refl _ _, fun g hg => by cases hg⟩
  · obtain ⟨A, c, hv, _, hrd, _⟩ := own_rd h.row (row_one encOk_str l)
    cases hv
    have hc0 : w.cell? ⟨p, 0, none⟩ = some (.slice (some ⟨g, 0, none⟩) l.length cap) := h.cell.cell 0
    have HC := Lib.hid (clone_some_str 0 _ _ cap _ w (Nat.zero_le _) hrd hsz)
    clear h hrd
    go_enter Try.func55, Try.ntmps55
    go_wp2_with fail
    refine HC.out.mono ?_
    rintro e w1 ⟨v1, rfl, ho, hb, hg⟩
    go_wp2_with fail
    go_ret
    exact ⟨_, rfl, ho, hb, hg⟩

set_option maxHeartbeats 1000000 in
theorem set_in_str (w : World) (p : Nat) (v : Value) (l : List ByteArray) (j : Nat) (x : ByteArray) (h : Pile_str w p v l) (hj : j < l.length) :
    Calls Try.prog 60 #[.pointer (some ⟨p, 0, none⟩), .int .i64 (j : Int), val_str x] w fun e w' => e = .returned (.bool true) ∧ Pile_str w' p v (l.set j x) ∧ But (foot p v) w w' := by
  have hI := is_str w p v l (j : Int) h
  rw [getL_nat, List.getElem?_eq_getElem hj] at hI
  simp only [Option.isSome_some] at hI
  obtain ⟨g, cap, rest, hv, _, hb, hnc, hcm, hrl⟩ := own_parts h.row (by omega)
  have hlen := row_len encOk_str l
  have h0 : w.cell? ⟨p, 0, none⟩ = some v := h.cell.cell 0
  have hjl : j < (l.flatMap enc_str).length := by rw [hlen]; omega
  have hc : (w.cell? ⟨g, j, none⟩).isSome = true := by
    rw [hb.cell, List.getElem?_toArray, List.getElem?_append_left hjl, List.getElem?_eq_getElem hjl]; rfl
  obtain ⟨u0, hu0⟩ := Option.isSome_iff_exists.1 hc
  have f0 := hb.frozen j (.inr (Nat.zero_le _))
  have hne : g ≠ p := fun e => h.apart (by rw [hv, e]; rfl)
  have hb' := own_set1 (u := val_str x) hb hjl
  rw [row_set1 (enc := enc_str) (val := val_str) (fun _ => rfl)] at hb'
  have hst : Pile_str (w.setCell ⟨g, j, none⟩ (val_str x)) p v (l.set j x) := by
    refine ⟨h.cell.far (Ne.symm hne) _, ?_, h.apart⟩
    rw [hv, List.length_set]
    exact own_of_blk (Nat.zero_le _) hb' (by rw [row_len encOk_str, List.length_set]) hnc hcm hrl
  have hbut : But (foot p v) w (w.setCell ⟨g, j, none⟩ (val_str x)) := (But.refl _ w).setCell _ _ (.inl (.inr (by rw [hv]; rfl)))
  have HI := Lib.hid hI
  have HS := Lib.hid hst
  have HB := Lib.hid hbut
  clear h hI hb hb' hst hbut hlen hc
  subst hv
  unfold val_str at *
  go_enter Try.func60, Try.ntmps60
  go_wp2_with fail
  refine HI.out.mono ?_
  rintro e w1 ⟨rfl, rfl⟩
  go_wp2_with fail
  go_ret
  exact ⟨rfl, HS.out, HB.out⟩

theorem set_out_str (w : World) (p : Nat) (v : Value) (l : List ByteArray) (i : Int) (x : ByteArray) (h : Pile_str w p v l) (hi : getL l i = none) :
    Calls Try.prog 60 #[.pointer (some ⟨p, 0, none⟩), .int .i64 i, val_str x] w fun e w' => e = .returned (.bool false) ∧ w = w' := by
  have hI := is_str w p v l i h
  rw [hi] at hI
  simp only [Option.isSome_none] at hI
  clear h
  unfold val_str
  go_enter Try.func60, Try.ntmps60
  go_wp2_with fail
  refine hI.mono ?_
  rintro e w1 ⟨rfl, rfl⟩
  go_wp2_with fail
  go_ret
  exact ⟨rfl, rfl⟩
end Go.Proofs.Ytafinbcmelpieaa
