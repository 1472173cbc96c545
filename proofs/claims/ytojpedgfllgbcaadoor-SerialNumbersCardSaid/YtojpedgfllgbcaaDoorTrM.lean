/- Trees in memory: a row of nodes, one node by itself, as a value. No program in sight. -/
import Derived.Test.YtojpedgfllgbcaaDoorTrL
import Derived.Test.YtojpedgfllgbcaaDoorAttrs0
import Derived.Lib.LaidU8
import Derived.ArgAppend
namespace Go.Proofs.YtojpedgfllgbcaaDoor
open Go.RowKit

/-- The cells of a row of nodes; what they lead to is to be read in w. -/
def Cells (w : World) : Fo → List Value → Prop
  | .nil, xs => xs = []
  | .cons l k r, xs => ∃ (A : Option Addr) (c : Nat) (K : Option Addr) (d : Nat) (ys zs : List Value),
      xs = .int .i64 l.kind :: .int .i64 l.ns :: .string l.name :: .slice A l.attrs.length c :: .string l.text :: .slice K k.len d :: ys ∧
      RdA w A l.attrs.length l.attrs ∧ Rd w K k.len 6 zs ∧ Cells w k zs ∧ k.len ≤ d ∧ d ≤ maxLen ∧ Cells w r ys
theorem Cells.keep {w w' : World} (hb : Below w.heap.size w w') : ∀ {f : Fo} {xs : List Value}, Cells w f xs → Cells w' f xs
  | .nil, _, h => h
  | .cons _ _ _, _, ⟨A, c, K, d, ys, zs, h1, h2, h3, h4, h5, h6, h7⟩ => ⟨A, c, K, d, ys, zs, h1, h2.keep hb, h3.keep hb, h4.keep hb, h5, h6, h7.keep hb⟩
theorem Cells.len {w : World} : ∀ {f : Fo} {xs : List Value}, Cells w f xs → xs.length = f.len * 6
  | .nil, xs, h => by rw [show xs = [] from h]; rfl
  | .cons l k r, xs, ⟨A, c, K, d, ys, zs, h1, h2, h3, h4, h5, h6, h7⟩ => by
    have := h7.len
    have e : (Fo.cons l k r).len = r.len + 1 := rfl
    rw [h1, e]
    simp only [List.length_cons]
    omega
theorem Cells.one {w : World} : ∀ {f : Fo} {xs : List Value}, Cells w f xs → ∀ u ∈ xs, u.oneCell' = true
  | .nil, xs, h, u, hu => by rw [show xs = [] from h] at hu; cases hu
  | .cons l k r, xs, ⟨A, c, K, d, ys, zs, h1, h2, h3, h4, h5, h6, h7⟩, u, hu => by
    rw [h1] at hu
    simp only [List.mem_cons] at hu
    rcases hu with rfl | rfl | rfl | rfl | rfl | rfl | hu
    all_goals (first | rfl | exact h7.one u hu)
/-- A slice that reads as this row of nodes. -/
def RdF (w : World) (K : Option Addr) (d : Nat) (f : Fo) : Prop := ∃ xs, Rd w K f.len 6 xs ∧ Cells w f xs ∧ f.len ≤ d ∧ d ≤ maxLen
theorem RdF.keep {w w' : World} {K : Option Addr} {d : Nat} {f : Fo} (h : RdF w K d f) (hb : Below w.heap.size w w') : RdF w' K d f := by
  obtain ⟨xs, h1, h2, h3⟩ := h
  exact ⟨xs, h1.keep hb, h2.keep hb, h3⟩
/-- The six parts of a node. -/
structure Parts where
  A : Option Addr
  c : Nat
  K : Option Addr
  d : Nat
def cellsP (l : Lab) (n : Nat) (p : Parts) : List Value := [.int .i64 l.kind, .int .i64 l.ns, .string l.name, .slice p.A l.attrs.length p.c, .string l.text, .slice p.K n p.d]
def valP (l : Lab) (n : Nat) (p : Parts) : Value := .agg #[.int .i64 l.kind, .int .i64 l.ns, .string l.name, .slice p.A l.attrs.length p.c, .string l.text, .slice p.K n p.d]
def PartsOk (w : World) (l : Lab) (k : Fo) (p : Parts) : Prop := RdA w p.A l.attrs.length l.attrs ∧ RdF w p.K p.d k
theorem PartsOk.keep {w w' : World} {l : Lab} {k : Fo} {p : Parts} (h : PartsOk w l k p) (hb : Below w.heap.size w w') : PartsOk w' l k p := ⟨h.1.keep hb, h.2.keep hb⟩
/-- The node of which the cells begin at a place. -/
def NodeAt (w : World) (a : Addr) (l : Lab) (k : Fo) : Prop := ∃ p, PartsOk w l k p ∧ ∀ j u, (cellsP l k.len p)[j]? = some u → w.cell? (a.add j) = some u
theorem NodeAt.keep {w w' : World} {a : Addr} {l : Lab} {k : Fo} (h : NodeAt w a l k) (hb : Below w.heap.size w w') : NodeAt w' a l k := by
  obtain ⟨p, h1, h2⟩ := h
  exact ⟨p, h1.keep hb, fun j u hu => cell_keep hb (h2 j u hu)⟩
theorem Cells.cons_iff {w : World} {l : Lab} {k r : Fo} {xs : List Value} : Cells w (.cons l k r) xs ↔ ∃ p ys, xs = cellsP l k.len p ++ ys ∧ PartsOk w l k p ∧ Cells w r ys := by
  constructor
  · rintro ⟨A, c, K, d, ys, zs, h1, h2, h3, h4, h5, h6, h7⟩
    exact ⟨⟨A, c, K, d⟩, ys, h1, ⟨h2, zs, h3, h4, h5, h6⟩, h7⟩
  · rintro ⟨p, ys, h1, ⟨h2, zs, h3, h4, h5, h6⟩, h7⟩
    exact ⟨p.A, p.c, p.K, p.d, ys, zs, h1, h2, h3, h4, h5, h6, h7⟩
theorem Cells.append {w : World} : ∀ {a : List (Lab × Fo)} {b : List (Lab × Fo)} {xs ys : List Value}, Cells w (Fo.ofL a) xs → Cells w (Fo.ofL b) ys → Cells w (Fo.ofL (a ++ b)) (xs ++ ys)
  | [], b, xs, ys, h1, h2 => by rw [show xs = [] from h1]; exact h2
  | x :: a, b, xs, ys, h1, h2 => by
    obtain ⟨p, zs, rfl, h3, h4⟩ := Cells.cons_iff.1 h1
    exact Cells.cons_iff.2 ⟨p, zs ++ ys, by rw [List.append_assoc], h3, h4.append h2⟩
theorem Cells.drop {w : World} : ∀ (i : Nat) {a : List (Lab × Fo)} {xs : List Value}, Cells w (Fo.ofL a) xs → Cells w (Fo.ofL (a.drop i)) (xs.drop (i * 6))
  | 0, a, xs, h => by simpa using h
  | i + 1, [], xs, h => by rw [show xs = [] from h]; simp; rfl
  | i + 1, x :: a, xs, h => by
    obtain ⟨p, ys, rfl, h3, h4⟩ := Cells.cons_iff.1 h
    have := Cells.drop i h4
    rw [List.drop_succ_cons]
    have e : (cellsP x.1 x.2.len p ++ ys).drop ((i + 1) * 6) = ys.drop (i * 6) := by
      rw [show (i + 1) * 6 = (cellsP x.1 x.2.len p).length + i * 6 by simp [cellsP]; omega, List.drop_append]
      simp
    rw [e]
    exact this
theorem Cells.take {w : World} : ∀ (i : Nat) {a : List (Lab × Fo)} {xs : List Value}, Cells w (Fo.ofL a) xs → Cells w (Fo.ofL (a.take i)) (xs.take (i * 6))
  | 0, a, xs, h => by simp; rfl
  | i + 1, [], xs, h => by rw [show xs = [] from h]; simp; rfl
  | i + 1, x :: a, xs, h => by
    obtain ⟨p, ys, rfl, h3, h4⟩ := Cells.cons_iff.1 h
    have := Cells.take i h4
    rw [List.take_succ_cons]
    have e : (cellsP x.1 x.2.len p ++ ys).take ((i + 1) * 6) = cellsP x.1 x.2.len p ++ ys.take (i * 6) := by
      rw [show (i + 1) * 6 = (cellsP x.1 x.2.len p).length + i * 6 by simp [cellsP]; omega, List.take_length_add_append]
    rw [e]
    exact Cells.cons_iff.2 ⟨p, _, rfl, h3, this⟩
theorem Cells.get {w : World} {i : Nat} {a : List (Lab × Fo)} {xs : List Value} {l : Lab} {k : Fo} (h : Cells w (Fo.ofL a) xs) (hi : a[i]? = some (l, k)) :
    ∃ p, PartsOk w l k p ∧ ∀ j u, (cellsP l k.len p)[j]? = some u → xs[i * 6 + j]? = some u := by
  have hd := Cells.drop i h
  obtain ⟨hlt, hx⟩ := List.getElem?_eq_some_iff.1 hi
  rw [List.drop_eq_getElem_cons hlt, hx] at hd
  obtain ⟨p, ys, he, hp, _⟩ := Cells.cons_iff.1 hd
  refine ⟨p, hp, fun j u hu => ?_⟩
  rw [← List.getElem?_drop, he, List.getElem?_append_left (List.getElem?_eq_some_iff.1 hu).1]
  exact hu
theorem RdF.to {w : World} {K : Option Addr} {d : Nat} {f : Fo} (h : RdF w K d f) : ∃ xs, Rd w K f.toL.length 6 xs ∧ Cells w (Fo.ofL f.toL) xs ∧ f.toL.length ≤ d ∧ d ≤ maxLen := by
  rw [Fo.of_to]; exact h
/-- The node at a place of a row. -/
theorem RdF.get {w : World} {K : Option Addr} {d : Nat} {f : Fo} {i : Nat} {l : Lab} {k : Fo} (h : RdF w K d f) (hi : f.toL[i]? = some (l, k)) : ∃ b, K = some b ∧ NodeAt w (b.add (i * 6)) l k := by
  obtain ⟨xs, h1, h2, h3, h4⟩ := h.to
  have hlt := (List.getElem?_eq_some_iff.1 hi).1
  obtain ⟨b, rfl, hc⟩ := h1.2.2 (by omega)
  obtain ⟨p, hp, hx⟩ := h2.get hi
  refine ⟨b, rfl, p, hp, fun j u hu => ?_⟩
  rw [Go.Deep.add_add]
  exact hc _ _ (hx j u hu)
theorem RdF.nil (w : World) (K : Option Addr) (d : Nat) (hd : d ≤ maxLen) : RdF w K d .nil := ⟨[], ⟨rfl, by simp, fun h => absurd h (by simp [Fo.len, Fo.toL])⟩, rfl, Nat.zero_le _, hd⟩
theorem Rd.drop_at {w : World} {b : Addr} {n k : Nat} {xs : List Value} (h : Rd w (some b) n k xs) (m : Nat) (hm : m ≤ n) (A : Option Addr) (hA : m < n → A = some (b.add (m * k))) : Rd w A (n - m) k (xs.drop (m * k)) := by
  refine ⟨by rw [List.length_drop, h.1, Nat.sub_mul], fun u hu => h.2.1 u (List.mem_of_mem_drop hu), fun h0 => ?_⟩
  obtain ⟨ad, e, hc⟩ := h.2.2 (by omega)
  cases e
  refine ⟨_, hA (by omega), fun j u hu => ?_⟩
  rw [List.getElem?_drop] at hu
  rw [Go.Deep.add_add]
  exact hc _ u hu
/-- A piece of a row: what stands from m on. -/
theorem RdF.drop {w : World} {b : Addr} {d : Nat} {f : Fo} (h : RdF w (some b) d f) (m : Nat) (hm : m ≤ f.toL.length) (A : Option Addr) (hA : m < f.toL.length → A = some (b.add (m * 6))) : RdF w A (d - m) (Fo.ofL (f.toL.drop m)) := by
  obtain ⟨xs, h1, h2, h3, h4⟩ := h.to
  refine ⟨xs.drop (m * 6), ?_, h2.drop m, ?_, by omega⟩
  · rw [Fo.len_of, List.length_drop]; exact h1.drop_at m hm A hA
  · rw [Fo.len_of, List.length_drop]; omega
theorem RdF.take {w : World} {K : Option Addr} {d : Nat} {f : Fo} (h : RdF w K d f) (m : Nat) (hm : m ≤ f.toL.length) : RdF w K d (Fo.ofL (f.toL.take m)) := by
  obtain ⟨xs, h1, h2, h3, h4⟩ := h.to
  refine ⟨xs.take (m * 6), ?_, h2.take m, ?_, h4⟩
  · rw [Fo.len_of, List.length_take, Nat.min_eq_left hm]; exact h1.take m hm
  · rw [Fo.len_of, List.length_take]; omega
/-- The cells of a node at an address that is spelled out. -/
theorem NodeAt.lit {w : World} {b o : Nat} {sp : Option Nat} {l : Lab} {k : Fo} (h : NodeAt w ⟨b, o, sp⟩ l k) : sp = none ∧ ∃ p, PartsOk w l k p ∧ w.cell? ⟨b, o, none⟩ = some (.int .i64 l.kind) ∧ w.cell? ⟨b, o + 1, none⟩ = some (.int .i64 l.ns) ∧ w.cell? ⟨b, o + 2, none⟩ = some (.string l.name) ∧
    w.cell? ⟨b, o + 3, none⟩ = some (.slice p.A l.attrs.length p.c) ∧ w.cell? ⟨b, o + 4, none⟩ = some (.string l.text) ∧ w.cell? ⟨b, o + 5, none⟩ = some (.slice p.K k.len p.d) := by
  obtain ⟨p, hp, hc⟩ := h
  have h0 := hc 0 _ rfl
  have e0 : (⟨b, o, sp⟩ : Addr).add 0 = ⟨b, o, sp⟩ := by simp [Addr.add]
  rw [e0] at h0
  obtain rfl := cell_spot h0
  refine ⟨rfl, p, hp, h0, ?_, ?_, ?_, ?_, ?_⟩
  · have := hc 1 _ rfl; rwa [Addr.add_lit] at this
  · have := hc 2 _ rfl; rwa [Addr.add_lit] at this
  · have := hc 3 _ rfl; rwa [Addr.add_lit] at this
  · have := hc 4 _ rfl; rwa [Addr.add_lit] at this
  · have := hc 5 _ rfl; rwa [Addr.add_lit] at this
theorem add_nil (a : Addr) (v : Value) (w : World) (h : w.cell? (a.add 0) = some v) : w.cell? a = some v := by
  have e : a.add 0 = a := by cases a; simp [Addr.add]
  rwa [e] at h
theorem NodeAt.kind {w : World} {a : Addr} {l : Lab} {k : Fo} (h : NodeAt w a l k) : w.cell? a = some (.int .i64 l.kind) := by
  obtain ⟨p, hp, hc⟩ := h
  exact add_nil a _ w (hc 0 _ rfl)
/-- A node's kids: nil, or a row without room behind it. -/
def FitK (q : Parts) (k : Fo) : Prop := (q.K = none ∧ q.d = 0 ∧ k.len = 0) ∨ (q.d = k.len ∧ 0 < k.len)
theorem FitK.nil (A : Option Addr) (c : Nat) : FitK ⟨A, c, none, 0⟩ .nil := .inl ⟨rfl, rfl, rfl⟩
/-- append to such a row: a new one. -/
theorem run_append_fit {P : Program} (w : World) (t ty e : TypeId) (i : TypeInfo) (z : Value) (bytes : Nat) (ht : P.underlying t = some (.slice e)) (hi : P.info? e = some i) (hz : i.zero = some z) (hsize : i.size = 6) (hby : i.bytes = bytes) (hzs : z.cells.size = 6)
    (q : Parts) (k : Fo) (hk : RdF w q.K q.d k) (hf : FitK q k) (ad : Addr) (c : Nat) (l : List (Lab × Fo)) (news : List Value) (hr : Rd w (some ad) l.length 6 news) (hcn : Cells w (Fo.ofL l) news) (hl : 0 < l.length) (hb : (k.len + l.length) * bytes ≤ 140737488355328) (hm : k.len + l.length ≤ maxLen) :
    ∃ K d w', (Builtin.append_ #[t, t] ty #[.slice q.K k.len q.d, .slice (some ad) l.length c]).run P w = .ok (.slice K (k.len + l.length) d) w' ∧ RdF w' K d (Fo.ofL (k.toL ++ l)) ∧ Below w.heap.size w w' := by
  have hlen : (Fo.ofL (k.toL ++ l)).len = k.len + l.length := by rw [Fo.len_of, List.length_append]; rfl
  obtain ⟨xs, h1, h2, h3, h4⟩ := hk.to
  have fin : ∀ (v' : Value) (w' : World), w'.ownsRow w.heap.size e 6 v' (k.len + l.length) (xs ++ news) → Below w.heap.size w w' → ∃ K d, v' = .slice K (k.len + l.length) d ∧ RdF w' K d (Fo.ofL (k.toL ++ l)) := fun v' w' ho hb => by
    have hc : Cells w' (Fo.ofL (k.toL ++ l)) (xs ++ news) := (h2.append hcn).keep hb
    obtain ⟨K, d, hv, hn, hrd, _⟩ := own_rd ho hc.one
    refine ⟨K, d, hv, xs ++ news, by rw [hlen]; exact hrd, hc, by rw [hlen]; exact hn, ?_⟩
    rcases ho.2 with ⟨e1, e2⟩ | ⟨g, cap, cur, e1, _, _, _, hcm, _, _⟩
    · omega
    · rw [hv] at e1; cases e1; exact hcm
  rcases hf with ⟨e1, e2, e3⟩ | ⟨e1, e2⟩
  · have hx : xs = [] := List.eq_nil_of_length_eq_zero (by have := h1.1; rw [show k.toL.length = 0 from e3] at this; simpa using this)
    obtain ⟨v', w', hrun, ho, hg, _⟩ := run_append_any (P := P) w t ty w.heap.size e i z 6 bytes ht hi hz hsize hby hzs (by omega) (.slice none 0 0) 0 [] (World.ownsRow_nil _ _ _ _) (some ad) l.length c news hr (by omega) (by rw [e3] at hb; exact hb) (Nat.le_refl _)
    rw [Nat.zero_add, List.nil_append] at ho
    have hbel : Below w.heap.size w w' := ⟨hg.os, hg.tape, hg.output, hg.size, fun j hj => hg.block j hj (by simp [Value.ownBlock])⟩
    obtain ⟨K, d, rfl, hrf⟩ := fin v' w' (by rw [hx, List.nil_append, e3, Nat.zero_add]; exact ho) hbel
    exact ⟨K, d, w', by rw [e1, e2, e3]; exact hrun.trans (by rw [e3]), hrf, hbel⟩
  · obtain ⟨b, hK, hcell⟩ := h1.2.2 e2
    obtain ⟨ad', e4, hnc⟩ := hr.2.2 hl
    cases e4
    obtain ⟨v', w', hrun, ho, hg⟩ := run_append_arg_grows (P := P) w t ty e i z 6 bytes ht hi hz hsize hby hzs (by omega) b k.len q.d xs h1.1 hcell ad l.length c news hr.1 hnc (by omega) hm hb
    have hbel : Below w.heap.size w w' := ⟨hg.os, hg.tape, hg.output, hg.size, fun j hj => hg.block j hj (by simp)⟩
    obtain ⟨K, d, rfl, hrf⟩ := fin v' w' ho hbel
    exact ⟨K, d, w', by rw [hK]; exact hrun, hrf, hbel⟩
/-- A row of nodes in a block of its own. -/
theorem rdF_block {w : World} {g : Nat} {t : TypeId} {fr : Nat × Nat} {f : Fo} {xs : List Value} {d : Nat} (h : Blk w g t xs.toArray fr) (hc : Cells w f xs) (hd : f.len ≤ d) (hm : d ≤ maxLen) : RdF w (some ⟨g, 0, none⟩) d f :=
  ⟨xs, ⟨hc.len, hc.one, fun _ => ⟨_, rfl, fun j u hu => by rw [add0, h.cell j, List.getElem?_toArray]; exact hu⟩⟩, hc, hd, hm⟩
/-- A node in a block of its own. -/
theorem NodeAt.box {w : World} {g : Nat} {t : TypeId} {fr : Nat × Nat} {l : Lab} {k : Fo} {p : Parts} (h : Blk w g t (cellsP l k.len p).toArray fr) (hp : PartsOk w l k p) : NodeAt w ⟨g, 0, none⟩ l k :=
  ⟨p, hp, fun j u hu => by rw [add0, h.cell j, List.getElem?_toArray]; exact hu⟩
end Go.Proofs.YtojpedgfllgbcaaDoor
