/- append to an owned row, whatever is appended; as a step of a region, too. No program in sight. -/
import Derived.Test.YtjghkiphfpeocaaOwn
import Derived.Deep.RegionLaw
import Derived.Deep.RegionHeld3
import Derived.Deep.AppendLies
import Derived.Deep.DrawnRows
namespace Go.Proofs.Ytjghkiphfpeocaa
open Go.RowKit

theorem run_append_any {P : Program} (w : World) (t ty : TypeId) (base : Nat) (e : TypeId) (i : TypeInfo) (z : Value) (size bytes : Nat) (ht : P.underlying t = some (.slice e)) (hi : P.info? e = some i) (hz : i.zero = some z)
    (hsize : i.size = size) (hby : i.bytes = bytes) (hzs : z.cells.size = size) (hsz : 0 < size) (v : Value) (n : Nat) (xs : List Value) (hown : w.ownsRow base e size v n xs)
    (A : Option Addr) (m c : Nat) (news : List Value) (hr : Rd w A m size news) (h63 : n + m ≤ maxLen) (hbytes : (n + m) * bytes ≤ 140737488355328) (hbase : base ≤ w.heap.size) :
    ∃ v' w', (Builtin.append_ #[t, t] ty #[v, .slice A m c]).run P w = .ok v' w' ∧ w'.ownsRow base e size v' (n + m) (xs ++ news) ∧ w.grownBy w' v.ownBlock ∧ (v'.ownBlock = v.ownBlock ∨ v'.ownBlock = some w.heap.size) := by
  cases A with
  | some ad =>
    obtain ⟨v', w', hr', h2, h3, h4, h5⟩ := run_append_own_at (P := P) w base t ty e i z size bytes ht hi hz hsize hby hzs hsz v n xs hown ad m c news hr.1 (fun j u hj => by
      have hm : 0 < m := by
        have := (List.getElem?_eq_some_iff.1 hj).1
        rcases Nat.eq_zero_or_pos m with h | h
        · have := hr.1; subst h; simp at this; subst this; simp at hj
        · exact h
      obtain ⟨ad', ea, hc⟩ := hr.2.2 hm
      cases ea
      exact hc j u hj) hr.2.1 h63 hbytes hbase
    exact ⟨v', w', hr', h2, h3, h5⟩
  | none =>
    have hm : m = 0 := by
      rcases Nat.eq_zero_or_pos m with h | h
      · exact h
      · obtain ⟨ad, e, _⟩ := hr.2.2 h; cases e
    subst hm
    have hn0 : news = [] := List.eq_nil_of_length_eq_zero (by simpa using hr.1)
    subst hn0
    rcases hown.2 with ⟨rfl, rfl⟩ | ⟨g, cap, cur, rfl, hb, hg, hnc, hcm, hcs, htk⟩
    · refine ⟨.slice none 0 0, w, ?_, by simpa using hown, ⟨rfl, rfl, rfl, Nat.le_refl _, fun _ _ _ => rfl⟩, .inl rfl⟩
      simp [Builtin.append_, run_underlying ht, Builtin.lenOf, Builtin.firstCells, sizeOf, typeInfo, hi]
    · have hs : (P.info? e).map (·.size) = some size := by rw [hi]; simp [hsize]
      have hroom := run_append_room_k (P := P) w t ty e size g n cap none 0 c cur e [] ht hs hg (by simp) (by omega) (fun h => absurd h (by simp)) (fun _ => rfl) (by simp only [List.length_nil, Nat.add_zero]; rw [hcs]; exact Nat.mul_le_mul_right _ hnc) (by simp)
      have e1 : (cur.toList.take (n * size) ++ [] ++ cur.toList.drop (n * size + ([] : List Value).length)).toArray = cur := by
        simp
      rw [e1] at hroom
      refine ⟨_, _, hroom, ?_, grownBy_setRow w g cur, .inl rfl⟩
      refine ⟨by simpa using hown.1, .inr ⟨g, cap, cur, rfl, hb, Blk.setRow (w := w) hg cur, by omega, hcm, hcs, ?_⟩⟩
      simp only [Nat.add_zero, List.append_nil]
      exact htk

/-- The same as an operation in a list. -/
theorem wpList_append_any {P : Program} (w : World) {ops : Array Oper} {rest : List Oper} {o : Oper} {a : Act} {Q : Exit → Act → World → Prop} (hgd : o.guard = none) (s x : Operand) (t : TypeId)
    (ho : o.op = .call { callee := .builtin .append, args := #[s, x], argTypes := #[t, t] })
    (base : Nat) (e : TypeId) (i : TypeInfo) (z : Value) (size bytes : Nat) (ht : P.underlying t = some (.slice e)) (hi : P.info? e = some i) (hz : i.zero = some z)
    (hsize : i.size = size) (hby : i.bytes = bytes) (hzs : z.cells.size = size) (hsz : 0 < size) (v : Value) (n : Nat) (xs : List Value) (hs : a.eval s = v) (hown : w.ownsRow base e size v n xs)
    (A : Option Addr) (m c : Nat) (news : List Value) (hx : a.eval x = .slice A m c) (hr : Rd w A m size news) (h63 : n + m ≤ maxLen) (hbytes : (n + m) * bytes ≤ 140737488355328) (hbase : base ≤ w.heap.size)
    (h : ∀ v' w', w'.ownsRow base e size v' (n + m) (xs ++ news) → w.grownBy w' v.ownBlock → (v'.ownBlock = v.ownBlock ∨ v'.ownBlock = some w.heap.size) → wpList P ops Q rest (a.put o.dst v') w') :
    wpList P ops Q (o :: rest) a w := by
  refine wpList_plain hgd fun K hK => ?_
  obtain ⟨v', w', hr', h2, h3, h5⟩ := run_append_any (P := P) w t o.type base e i z size bytes ht hi hz hsize hby hzs hsz v n xs hown A m c news hr h63 hbytes hbase
  unfold Oper.wp execOp
  simp only [ho, resolve, invoke, builtin, Sem.run_bind, Sem.run_pure, Result.andThen_ok, List.map_toArray, List.map_cons, List.map_nil, hs, hx, hr']
  exact hK _ _ (h v' w' h2 h3 h5)
/-- The same as a step of a region that draws. -/
theorem step_append_any {P : Program} (w : World) {ops : Array Oper} {o : Oper} {a : Act} {K : Act → World → Prop} {Q : Exit → Act → World → Prop} {E : Prop} (hgd : o.guard = none) (s x : Operand) (t : TypeId)
    (ho : o.op = .call { callee := .builtin .append, args := #[s, x], argTypes := #[t, t] })
    (base : Nat) (e : TypeId) (i : TypeInfo) (z : Value) (size bytes : Nat) (ht : P.underlying t = some (.slice e)) (hi : P.info? e = some i) (hz : i.zero = some z)
    (hsize : i.size = size) (hby : i.bytes = bytes) (hzs : z.cells.size = size) (hsz : 0 < size) (v : Value) (n : Nat) (xs : List Value) (hs : a.eval s = v) (hown : w.ownsRow base e size v n xs)
    (A : Option Addr) (m c : Nat) (news : List Value) (hx : a.eval x = .slice A m c) (hr : Rd w A m size news) (h63 : n + m ≤ maxLen) (hbytes : (n + m) * bytes ≤ 140737488355328) (hbase : base ≤ w.heap.size)
    (h : ∀ v' w', w'.ownsRow base e size v' (n + m) (xs ++ news) → w.grownBy w' v.ownBlock → (v'.ownBlock = v.ownBlock ∨ v'.ownBlock = some w.heap.size) → K (a.put o.dst v') w') :
    if Region.wanted o (yielded ops a.tmps) = true then Oper.wp P o a w K Q else E := by
  have hw : Region.wanted o (yielded ops a.tmps) = true := by simp [Region.wanted, hgd]
  rw [if_pos hw]
  obtain ⟨v', w', hr', h2, h3, h5⟩ := run_append_any (P := P) w t o.type base e i z size bytes ht hi hz hsize hby hzs hsz v n xs hown A m c news hr h63 hbytes hbase
  unfold Oper.wp execOp
  simp only [ho, resolve, invoke, builtin, Sem.run_bind, Sem.run_pure, Result.andThen_ok, List.map_toArray, List.map_cons, List.map_nil, hs, hx, hr']
  exact h v' w' h2 h3 h5

/-! ### a pile, and beside it a list of one's own -/
def footL (p : Nat) (v lv : Value) : Nat → Prop := fun k => foot p v k ∨ lv.ownBlock = some k
structure Two {α : Type} (st e : TypeId) (K : Nat) (enc : α → List Value) (w : World) (p : Nat) (v lv : Value) (lp l : List α) : Prop where
  pile : Stk st e K enc w p v lp
  row : w.ownsRow 0 e K lv l.length (l.flatMap enc)
  apart : ∀ k, foot p v k → lv.ownBlock ≠ some k
/-- What was done since w0 touched these blocks alone, or new ones. -/
structure Run (w0 : World) (p : Nat) (v0 lv0 : Value) (w : World) (v lv : Value) : Prop where
  but : But (footL p v0 lv0) w0 w
  foot : ∀ k, footL p v lv k → footL p v0 lv0 k ∨ w0.heap.size ≤ k
section
variable {α : Type} {st e : TypeId} {K : Nat} {enc : α → List Value} {w0 w w1 : World} {p : Nat} {v0 lv0 v lv v' lv' : Value} {lp l lp' l' : List α}
theorem Two.lt (h : Two st e K enc w p v lv lp l) {k : Nat} (hk : footL p v lv k) : k < w.heap.size := by
  rcases hk with hk | hk
  · exact h.pile.lt hk
  · exact owns_lt h.row hk
theorem Two.but {S : Nat → Prop} (h : Two st e K enc w p v lv lp l) (hb : But S w w1) (hn : ∀ k, footL p v lv k → ¬ S k) : Two st e K enc w1 p v lv lp l :=
  ⟨h.pile.but hb (fun k hk => hn k (.inl hk)), owns_but h.row hb (fun k hk => hn k (.inr hk)), h.apart⟩
theorem Two.keep (h : Two st e K enc w p v lv lp l) (hb : Below w.heap.size w w1) : Two st e K enc w1 p v lv lp l := h.but (S := fun _ => False) (But.of_below hb) (fun _ _ h => h)
theorem Two.onPile (h : Two st e K enc w p v lv lp l) (hs : Stk st e K enc w1 p v' lp') (hb : But (foot p v) w w1) (hg : Grown w v v') : Two st e K enc w1 p v' lv lp' l := by
  refine ⟨hs, owns_but h.row hb (fun k hk hf => h.apart k hf hk), fun k hk e => ?_⟩
  rcases hg.foot p hk with hf | hf
  · exact h.apart k hf e
  · have := owns_lt h.row e; omega
theorem Two.onRow (h : Two st e K enc w p v lv lp l) (hr : w1.ownsRow 0 e K lv' l'.length (l'.flatMap enc)) (hb : But (fun k => lv.ownBlock = some k) w w1) (hg : Grown w lv lv') : Two st e K enc w1 p v lv' lp l' := by
  refine ⟨h.pile.but hb (fun k hk hf => h.apart k hk hf), hr, fun k hk e => ?_⟩
  rcases hg with hg | ⟨j, hj, hg⟩
  · exact h.apart k hk (hg ▸ e)
  · rw [hg] at e
    cases e
    have := h.pile.lt hk
    omega
theorem Run.refl (w : World) (p : Nat) (v lv : Value) : Run w p v lv w v lv := ⟨But.refl _ _, fun _ h => .inl h⟩
theorem Run.onPile (r : Run w0 p v0 lv0 w v lv) (hb : But (Proofs.Ytjghkiphfpeocaa.foot p v) w w1) (hg : Grown w v v') : Run w0 p v0 lv0 w1 v' lv := by
  refine ⟨r.but.trans hb (fun k hk => r.foot k (.inl hk)), fun k hk => ?_⟩
  rcases hk with hk | hk
  · rcases hg.foot p hk with hf | hf
    · exact r.foot k (.inl hf)
    · exact .inr (Nat.le_trans r.but.size hf)
  · exact r.foot k (.inr hk)
theorem Run.onRow (r : Run w0 p v0 lv0 w v lv) (hb : But (fun k => lv.ownBlock = some k) w w1) (hg : Grown w lv lv') : Run w0 p v0 lv0 w1 v lv' := by
  refine ⟨r.but.trans hb (fun k hk => r.foot k (.inr hk)), fun k hk => ?_⟩
  rcases hk with hk | hk
  · exact r.foot k (.inl hk)
  · rcases hg with hg | ⟨j, hj, hg⟩
    · exact r.foot k (.inr (hg ▸ hk))
    · rw [hg] at hk
      cases hk
      exact .inr (Nat.le_trans r.but.size hj)
theorem Run.step (r : Run w0 p v0 lv0 w v lv) (hb : Below w.heap.size w w1) : Run w0 p v0 lv0 w1 v lv := ⟨r.but.trans (S1 := fun _ => False) (But.of_below hb) (fun _ h => h.elim), r.foot⟩
end
/-- A row cut off behind its first things. -/
theorem own_take {α : Type} {enc : α → List Value} {w : World} {base : Nat} {e : TypeId} {K g cap : Nat} (hE : EncOk enc K) {l : List α} (m : Nat) (hm : m ≤ l.length) (h : w.ownsRow base e K (.slice (some ⟨g, 0, none⟩) l.length cap) l.length (l.flatMap enc)) :
    w.ownsRow base e K (.slice (some ⟨g, 0, none⟩) m cap) m ((l.take m).flatMap enc) := by
  refine ⟨by rw [row_len hE, List.length_take, Nat.min_eq_left hm], ?_⟩
  rcases h.2 with ⟨h, _⟩ | ⟨g', cap', cur, hv, hb, hg, hnc, hcm, hs, ht⟩
  · cases h
  · cases hv
    refine .inr ⟨g, cap, cur, rfl, hb, hg, by omega, hcm, hs, ?_⟩
    rw [← row_take hE, ← ht, List.take_take, Nat.min_eq_left (Nat.mul_le_mul_right _ hm)]

/-! ### a region that only makes memory: each world keeps all that was there when it began -/
section
variable {w1 w w' : World}
theorem made_drew (w1 : World) : Below w1.heap.size w1 w1.drew := (Below.refl _ _).drew
theorem made_alloc (h : Below w1.heap.size w1 w) (o : Obj) : Below w1.heap.size w1 (w.alloc o) := h.alloc h.size o
theorem made_grown {row : Option Nat} (h : Below w1.heap.size w1 w) (hg : w.grownBy w' row) (hr : ∀ k, row = some k → w1.heap.size ≤ k) : Below w1.heap.size w1 w' :=
  ⟨hg.os.trans h.os, hg.tape.trans h.tape, hg.output.trans h.output, Nat.le_trans h.size hg.size, fun k hk =>
    (hg.block k (Nat.lt_of_lt_of_le hk h.size) (fun e => by have := hr k e.symm; omega)).trans (h.block k hk)⟩
end
/-- append to a row that was made in the region itself. -/
theorem step_append_made {P : Program} (w1 w : World) {ops : Array Oper} {o : Oper} {a : Act} {K : Act → World → Prop} {Q : Exit → Act → World → Prop} {E : Prop} (hgd : o.guard = none) (s x : Operand) (t : TypeId)
    (ho : o.op = .call { callee := .builtin .append, args := #[s, x], argTypes := #[t, t] })
    (e : TypeId) (i : TypeInfo) (z : Value) (size bytes : Nat) (ht : P.underlying t = some (.slice e)) (hi : P.info? e = some i) (hz : i.zero = some z)
    (hsize : i.size = size) (hby : i.bytes = bytes) (hzs : z.cells.size = size) (hsz : 0 < size) (v : Value) (n : Nat) (xs : List Value) (hs : a.eval s = v) (hown : w.ownsRow w1.heap.size e size v n xs)
    (A : Option Addr) (m c : Nat) (news : List Value) (hx : a.eval x = .slice A m c) (hr : Rd w A m size news) (h63 : n + m ≤ maxLen) (hbytes : (n + m) * bytes ≤ 140737488355328) (hB : Below w1.heap.size w1 w)
    (h : ∀ v' w', w'.ownsRow w1.heap.size e size v' (n + m) (xs ++ news) → Below w1.heap.size w1 w' → w.grownBy w' v.ownBlock → K (a.put o.dst v') w') :
    if Region.wanted o (yielded ops a.tmps) = true then Oper.wp P o a w K Q else E :=
  step_append_any w hgd s x t ho w1.heap.size e i z size bytes ht hi hz hsize hby hzs hsz v n xs hs hown A m c news hx hr h63 hbytes hB.size
    (fun v' w' h2 h3 _ => h v' w' h2 (made_grown hB h3 (fun k hk => (hown.lt k hk).1)) h3)
theorem made_new (w1 w : World) (e : TypeId) (size : Nat) (hB : Below w1.heap.size w1 w) : (w.alloc (.cells #[] e)).ownsRow w1.heap.size e size (.slice (some ⟨w.heap.size, 0, none⟩) 0 0) 0 [] :=
  World.ownsRow_made w #[] 0 hB.size (Nat.zero_le _) (by simp)
/-- A row's pieces, to be read. -/
theorem rd_take {α : Type} {enc : α → List Value} {w : World} {e : TypeId} {K n base : Nat} {v : Value} {l : List α} (hE : EncOk enc K) (h : w.ownsRow base e K v n (l.flatMap enc)) (A : Option Addr) (c m : Nat) (hv : v = .slice A n c) (hm : m ≤ n) :
    Rd w A m K ((l.take m).flatMap enc) := by
  obtain ⟨A', c', hv', _, hr, _⟩ := own_rd h (row_one hE l)
  rw [hv] at hv'
  cases hv'
  rw [← row_take hE]
  exact hr.take m hm
theorem rd_drop {α : Type} {enc : α → List Value} {w : World} {e : TypeId} {K n base : Nat} {l : List α} (hE : EncOk enc K) {g c : Nat} (h : w.ownsRow base e K (.slice (some ⟨g, 0, none⟩) n c) n (l.flatMap enc)) (m : Nat) (ad : Addr) (hm : m ≤ n) (had : m < n → ad = ⟨g, m * K, none⟩) :
    Rd w (some ad) (n - m) K ((l.drop m).flatMap enc) := by
  have hl := h.1
  refine ⟨?_, row_one hE _, fun h0 => ⟨ad, rfl, fun j u hu => ?_⟩⟩
  · rw [← row_drop hE, List.length_drop, hl, Nat.sub_mul]
  · rw [had (by omega)]
    rw [← row_drop hE, List.getElem?_drop] at hu
    have := h.cells rfl (m * K + j) u hu
    rw [add0] at this
    have ha : (⟨g, m * K, none⟩ : Addr).add j = ⟨g, m * K + j, none⟩ := by unfold Addr.add; split <;> simp_all
    rw [ha]
    exact this
/-- A list made anew, beside the pile. -/
theorem Two.anew {α : Type} {st e : TypeId} {K : Nat} {enc : α → List Value} {w w1 : World} {p : Nat} {v lv lv' : Value} {lp l l' : List α} {n : Nat} {xs : List Value} (h : Two st e K enc w p v lv lp l) (hr : w1.ownsRow w.heap.size e K lv' n xs) (hb : Below w.heap.size w w1) (hn : n = l'.length) (hx : xs = l'.flatMap enc) :
    Two st e K enc w1 p v lv' lp l' := by
  subst hn hx
  refine ⟨h.pile.keep hb, owns_base hr (fun _ _ => Nat.zero_le _), fun k hk e => ?_⟩
  have h1 := (hr.lt k e).1
  have h2 := h.pile.lt hk
  omega
theorem Run.anew {w0 w w1 : World} {p : Nat} {v0 lv0 v lv lv' : Value} {e : TypeId} {K n : Nat} {xs : List Value} (r : Run w0 p v0 lv0 w v lv) (hr : w1.ownsRow w.heap.size e K lv' n xs) (hb : Below w.heap.size w w1) : Run w0 p v0 lv0 w1 v lv' := by
  refine ⟨r.but.trans (S1 := fun _ => False) (But.of_below hb) (fun _ h => h.elim), fun k hk => ?_⟩
  rcases hk with hk | hk
  · exact r.foot k (.inl hk)
  · exact .inr (Nat.le_trans r.but.size (hr.lt k hk).1)

/-- Behind a change of the row, the new slice about to be stored. -/
theorem stored_after {α : Type} {st e : TypeId} {K : Nat} {enc : α → List Value} {w w0 w1 : World} {p n : Nat} {v v1 : Value} {l l1 : List α} {xs : List Value} (hE : EncOk enc K) (h : Stk st e K enc w p v l) (hw0 : Below w.heap.size w w0) (hown1 : w1.ownsRow 0 e K v1 n xs)
    (hg1 : w0.grownBy w1 v.ownBlock) (hat1 : v1.ownBlock = v.ownBlock ∨ v1.ownBlock = some w0.heap.size) (hn : n = l1.length) (hx : xs = l1.flatMap enc) :
    ∃ A1 cap1, v1 = .slice A1 n cap1 ∧ w1.cell? ⟨p, 0, none⟩ = some v ∧ w1.frozen? ⟨p, 0, none⟩ = false ∧
      Hid (Stk st e K enc (w1.setCell ⟨p, 0, none⟩ v1) p v1 l1) ∧ Hid (But (foot p v) w (w1.setCell ⟨p, 0, none⟩ v1)) ∧ Hid (Grown w v v1) ∧ Hid (But (fun k => v.ownBlock = some k) w w1) := by
  subst hn hx
  have hplt := h.cell.lt
  have hs := hw0.size
  have hbut0 : But (fun k => v.ownBlock = some k) w w1 := (But.of_below hw0).trans (But.of_grown hg1 (fun k hk => hk)) (fun k hk => .inl hk)
  have hbut1 : But (foot p v) w w1 := hbut0.mono (fun k hk => .inl (.inr hk))
  have hcell1 : Blk w1 p st #[v] (0, 0) := h.cell.but hbut0 (fun e => h.apart e)
  have hne : v1.ownBlock ≠ some p := by
    rcases hat1 with e | e
    · rw [e]; exact h.apart
    · rw [e]; simp; omega
  have hgr : Grown w v v1 := by
    rcases hat1 with e | e
    · exact .inl e
    · exact .inr ⟨_, hs, e⟩
  have hst : Stk st e K enc (w1.setCell ⟨p, 0, none⟩ v1) p v1 l1 := stk_stored hcell1 hown1 hne rfl rfl
  have hbut2 : But (foot p v) w (w1.setCell ⟨p, 0, none⟩ v1) := hbut1.setCell _ _ (.inl (.inl rfl))
  obtain ⟨A1, c1, hv1, _, _, _⟩ := own_rd hown1 (row_one hE l1)
  exact ⟨A1, c1, hv1, hcell1.cell 0, hcell1.frozen 0 (.inr (Nat.zero_le _)), hst, hbut2, hgr, hbut0⟩

theorem set4_but (w : World) (b : Nat) (u0 u1 u2 u3 : Value) : But (fun k => k = b) w ((((w.setCell ⟨b, 0, none⟩ u0).setCell ⟨b, 1, none⟩ u1).setCell ⟨b, 2, none⟩ u2).setCell ⟨b, 3, none⟩ u3) :=
  ((((But.refl (fun k => k = b) w).setCell _ _ (.inl rfl)).setCell _ _ (.inl rfl)).setCell _ _ (.inl rfl)).setCell _ _ (.inl rfl)
/-- append onto a row that the call made. -/
theorem append_made {P : Program} (w1 w : World) {ops : Array Oper} {rest : List Oper} {o : Oper} {a : Act} {Q : Exit → Act → World → Prop} (hgd : o.guard = none) (s x : Operand) (t : TypeId)
    (ho : o.op = .call { callee := .builtin .append, args := #[s, x], argTypes := #[t, t] })
    (e : TypeId) (i : TypeInfo) (z : Value) (size bytes : Nat) (ht : P.underlying t = some (.slice e)) (hi : P.info? e = some i) (hz : i.zero = some z)
    (hsize : i.size = size) (hby : i.bytes = bytes) (hzs : z.cells.size = size) (hsz : 0 < size) (v : Value) (n : Nat) (xs : List Value) (hs : a.eval s = v) (hown : w.ownsRow w1.heap.size e size v n xs)
    (A : Option Addr) (m c : Nat) (news : List Value) (hx : a.eval x = .slice A m c) (hr : Rd w A m size news) (h63 : n + m ≤ maxLen) (hbytes : (n + m) * bytes ≤ 140737488355328) (hB : Below w1.heap.size w1 w)
    (h : ∀ v' w', w'.ownsRow w1.heap.size e size v' (n + m) (xs ++ news) → Below w1.heap.size w1 w' → w.grownBy w' v.ownBlock → wpList P ops Q rest (a.put o.dst v') w') :
    wpList P ops Q (o :: rest) a w :=
  wpList_append_any w hgd s x t ho w1.heap.size e i z size bytes ht hi hz hsize hby hzs hsz v n xs hs hown A m c news hx hr h63 hbytes hB.size
    (fun v' w' h2 h3 _ => h v' w' h2 (made_grown hB h3 (fun k hk => (hown.lt k hk).1)) h3)
end Go.Proofs.Ytjghkiphfpeocaa
