/- RowSet, Tk, TokRow. -/
import Derived.Test.YtjghkiphfpeocaaAttrs3b
import Derived.KernelRfl
/- A row of attributes, read, and held apart from other blocks. -/
namespace Go.Proofs.Ytjghkiphfpeocaa
open Go.RowKit

theorem RowA.nil (w : World) (base : Nat) : RowA w base (.slice none 0 0) [] := ⟨by simp, .inl ⟨rfl, rfl⟩⟩
theorem RowA.read0 {w : World} {base : Nat} {v : Value} {l : List At} (h : RowA w base v l) : ∃ A c, v = .slice A l.length c ∧ RdA w A l.length l ∧ (A = none → c = 0) := by
  obtain ⟨A, c, hv, hr⟩ := h.read
  refine ⟨A, c, hv, hr, fun hA => ?_⟩
  rcases h.2 with ⟨h1, _⟩ | ⟨g, cap, cur, h1, _⟩
  · rw [hv] at h1
    injection h1
  · rw [hv, hA] at h1
    injection h1 with h1
    cases h1
/-- A row of attributes is no other thing's block. -/
theorem RowA.apart {w : World} {base tb : Nat} {v : Value} {l : List At} {t : TypeId} {cs : Array Value} {fr : Nat × Nat} (h : RowA w base v l) (ht : Blk w tb t cs fr) (hne : t ≠ 42) : v.ownBlock ≠ some tb := by
  rcases h.2 with ⟨h1, _⟩ | ⟨g, cap, cur, h1, _, hg, _⟩
  · rw [h1]; intro e; cases e
  · rw [h1]
    intro e
    have e : some g = some tb := e
    cases e
    unfold Blk at ht
    rw [ht] at hg
    injection hg with hg
    injection hg with _ hg
    exact hne hg
theorem RowA.set {w : World} {base tb : Nat} {v : Value} {l : List At} {t : TypeId} {cs : Array Value} {fr : Nat × Nat} (h : RowA w base v l) (ht : Blk w tb t cs fr) (hne : t ≠ 42) (i : Nat) (u : Value) : RowA (w.setCell ⟨tb, i, none⟩ u) base v l :=
  owns_but h ((But.refl (fun k => k = tb) w).setCell ⟨tb, i, none⟩ u (.inl rfl)) (fun _ hg e => h.apart ht hne (by rw [hg, e]))

end Go.Proofs.Ytjghkiphfpeocaa

/- A token with attributes, as a value and where it lies. -/
namespace Go.Proofs.Ytjghkiphfpeocaa
open Go.RowKit

structure Tk where
  kd : Int
  nm : ByteArray
  al : List At
  sf : Bool
  tx : ByteArray
def tkG (t : Tk) (A : Option Addr) (c : Nat) : Value := .agg #[.int .i64 t.kd, .string t.nm, .slice A t.al.length c, .bool t.sf, .string t.tx]
theorem below_tokG (w : World) (cs : Array Value) : Below w.heap.size w (w.alloc (.cells cs 34)) := (Below.refl _ _).alloc (Nat.le_refl _) _
theorem below_atG (w : World) (cs : Array Value) : Below w.heap.size w (w.alloc (.cells cs 42)) := (Below.refl _ _).alloc (Nat.le_refl _) _

theorem tokat_ne : 34 ≠ 42 := by decide
theorem set5_belowG {w w1 : World} {b : Nat} (h : Below w.heap.size w w1) (hb : w.heap.size ≤ b) (u0 u1 u2 u3 u4 : Value) : Below w.heap.size w (((((w1.setCell ⟨b, 0, none⟩ u0).setCell ⟨b, 1, none⟩ u1).setCell ⟨b, 2, none⟩ u2).setCell ⟨b, 3, none⟩ u3).setCell ⟨b, 4, none⟩ u4) :=
  ((((h.setCell hb _).setCell hb _).setCell hb _).setCell hb _).setCell hb _
theorem set5_tokG {w : World} {b base : Nat} {z0 z1 z2 z3 z4 : Value} {v : Value} {l : List At} (h : Blk w b 34 #[z0, z1, z2, z3, z4] (0, 0)) (hr : RowA w base v l) (u0 u1 u2 u3 u4 : Value) :
    Blk (((((w.setCell ⟨b, 0, none⟩ u0).setCell ⟨b, 1, none⟩ u1).setCell ⟨b, 2, none⟩ u2).setCell ⟨b, 3, none⟩ u3).setCell ⟨b, 4, none⟩ u4) b 34 #[u0, u1, u2, u3, u4] (0, 0) ∧
    RowA (((((w.setCell ⟨b, 0, none⟩ u0).setCell ⟨b, 1, none⟩ u1).setCell ⟨b, 2, none⟩ u2).setCell ⟨b, 3, none⟩ u3).setCell ⟨b, 4, none⟩ u4) base v l := by
  have h0 : Blk (w.setCell ⟨b, 0, none⟩ u0) b 34 #[u0, z1, z2, z3, z4] (0, 0) := h.set 0 u0
  have h1 : Blk ((w.setCell ⟨b, 0, none⟩ u0).setCell ⟨b, 1, none⟩ u1) b 34 #[u0, u1, z2, z3, z4] (0, 0) := h0.set 1 u1
  have h2 : Blk (((w.setCell ⟨b, 0, none⟩ u0).setCell ⟨b, 1, none⟩ u1).setCell ⟨b, 2, none⟩ u2) b 34 #[u0, u1, u2, z3, z4] (0, 0) := h1.set 2 u2
  have h3 : Blk ((((w.setCell ⟨b, 0, none⟩ u0).setCell ⟨b, 1, none⟩ u1).setCell ⟨b, 2, none⟩ u2).setCell ⟨b, 3, none⟩ u3) b 34 #[u0, u1, u2, u3, z4] (0, 0) := h2.set 3 u3
  exact ⟨h3.set 4 u4, ((((hr.set h tokat_ne 0 u0).set h0 tokat_ne 1 u1).set h1 tokat_ne 2 u2).set h2 tokat_ne 3 u3).set h3 tokat_ne 4 u4⟩
theorem cells_tokG {w : World} {b : Nat} {u0 u1 u2 u3 u4 : Value} (h : Blk w b 34 #[u0, u1, u2, u3, u4] (0, 0)) : w.cell? ⟨b, 0, none⟩ = some u0 ∧ w.cell? ⟨b, 1, none⟩ = some u1 ∧ w.cell? ⟨b, 2, none⟩ = some u2 ∧ w.cell? ⟨b, 3, none⟩ = some u3 ∧ w.cell? ⟨b, 4, none⟩ = some u4 ∧
    (w.frozen? ⟨b, 0, none⟩ = false ∧ w.frozen? ⟨b, 1, none⟩ = false ∧ w.frozen? ⟨b, 2, none⟩ = false ∧ w.frozen? ⟨b, 3, none⟩ = false ∧ w.frozen? ⟨b, 4, none⟩ = false) :=
  ⟨h.cell 0, h.cell 1, h.cell 2, h.cell 3, h.cell 4, h.frozen 0 (.inr (Nat.zero_le _)), h.frozen 1 (.inr (Nat.zero_le _)), h.frozen 2 (.inr (Nat.zero_le _)), h.frozen 3 (.inr (Nat.zero_le _)), h.frozen 4 (.inr (Nat.zero_le _))⟩
/-- A token that a function hands over: its attributes are its own. -/
def TokOut (w : World) (t : Tk) (e : Ending) (w' : World) : Prop := ∃ A c, e = .returned (tkG t A c) ∧ RowA w' w.heap.size (.slice A t.al.length c) t.al ∧ Below w.heap.size w w'
def Tk.ok (t : Tk) : Prop := t.nm.size ≤ 9223372036854775807 ∧ t.tx.size ≤ 9223372036854775807 ∧ t.al.length ≤ 9223372036854775807 ∧ ∀ x ∈ t.al, x.ok
end Go.Proofs.Ytjghkiphfpeocaa

/- Lists of tokens, as they lie in memory. -/
namespace Go.Proofs.Ytjghkiphfpeocaa
open Go.RowKit

/-- A token where it lies: its attributes by a slice. -/
structure Tq where
  t : Tk
  A : Option Addr
  c : Nat
def enc_tk : Tq → List Value := fun m => [.int .i64 m.t.kd, .string m.t.nm, .slice m.A m.t.al.length m.c, .bool m.t.sf, .string m.t.tx]
theorem encOk_tk : EncOk enc_tk 5 := fun x => ⟨rfl, fun u hu => List.all_eq_true.1 (show (enc_tk x).all (fun u => u.oneCell') = true from rfl) u hu⟩
theorem info_tk : (Try.prog.info? 34).map (fun i => (i.zero, i.size, i.bytes)) = some (some (.agg #[.int .i64 0, .string ⟨#[]⟩, .slice none 0 0, .bool false, .string ⟨#[]⟩] : Value), 5, 72) := by kernel_rfl
/-- A list of tokens that can be read. -/
def RdK (w : World) (A : Option Addr) (n : Nat) (l : List Tq) : Prop := n = l.length ∧ Rd w A n 5 (l.flatMap enc_tk) ∧ ∀ m ∈ l, RdA w m.A m.t.al.length m.t.al
/-- .. and that is the call's own. -/
def RowK (w : World) (base : Nat) (v : Value) (l : List Tq) : Prop := w.ownsRow base 34 5 v l.length (l.flatMap enc_tk) ∧ ∀ m ∈ l, RowA w 0 (.slice m.A m.t.al.length m.c) m.t.al
theorem RdK.keep {w w' : World} {A : Option Addr} {n : Nat} {l : List Tq} (h : RdK w A n l) (hb : Below w.heap.size w w') : RdK w' A n l := ⟨h.1, h.2.1.keep hb, fun m hm => (h.2.2 m hm).keep hb⟩
theorem RowK.keep {w w' : World} {base : Nat} {v : Value} {l : List Tq} (h : RowK w base v l) (hb : Below w.heap.size w w') : RowK w' base v l :=
  ⟨owns_but h.1 (But.of_below hb) (S := fun _ => False) (fun _ _ h => h), fun m hm => (h.2 m hm).keep hb⟩
theorem rowa_rd {w : World} {base : Nat} {A : Option Addr} {n c : Nat} {l : List At} (h : RowA w base (.slice A n c) l) : RdA w A n l := by
  obtain ⟨A', c', e, hr⟩ := h.read
  injection e with e1 e2 e3
  rw [e1, e2]; exact hr
theorem RowK.read {w : World} {base : Nat} {v : Value} {l : List Tq} (h : RowK w base v l) : ∃ A c, v = .slice A l.length c ∧ l.length ≤ c ∧ RdK w A l.length l := by
  obtain ⟨A, c, hv, hc, hr, _⟩ := own_rd h.1 (row_one encOk_tk l)
  exact ⟨A, c, hv, hc, rfl, hr, fun m hm => rowa_rd (h.2 m hm)⟩
theorem RowK.nil (w : World) (base : Nat) : RowK w base (.slice none 0 0) [] := ⟨World.ownsRow_nil _ _ _ _, by simp⟩
theorem rdK_at {w : World} {A : Option Addr} {l : List Tq} {n j : Nat} {m : Tq} (h : RdK w A n l) (hx : l[j]? = some m) :
    ∃ ad, A = some ad ∧ w.cell? (ad.add (j * 5)) = some (.int .i64 m.t.kd) ∧ w.cell? { ad.add (j * 5) with off := (ad.add (j * 5)).off + 1, spot := none } = some (.string m.t.nm) ∧ w.cell? { ad.add (j * 5) with off := (ad.add (j * 5)).off + 2, spot := none } = some (.slice m.A m.t.al.length m.c) ∧
      w.cell? { ad.add (j * 5) with off := (ad.add (j * 5)).off + 3, spot := none } = some (.bool m.t.sf) ∧ w.cell? { ad.add (j * 5) with off := (ad.add (j * 5)).off + 4, spot := none } = some (.string m.t.tx) := by
  have hj := (List.getElem?_eq_some_iff.1 hx).1
  obtain ⟨ad, e, hc⟩ := h.2.1.2.2 (by rw [h.1]; omega)
  have k0 := hc (j * 5 + 0) _ (row_at encOk_tk l j 0 m _ hx rfl)
  have k1 := hc (j * 5 + 1) _ (row_at encOk_tk l j 1 m _ hx rfl)
  have k2 := hc (j * 5 + 2) _ (row_at encOk_tk l j 2 m _ hx rfl)
  have k3 := hc (j * 5 + 3) _ (row_at encOk_tk l j 3 m _ hx rfl)
  have k4 := hc (j * 5 + 4) _ (row_at encOk_tk l j 4 m _ hx rfl)
  simp only [Nat.add_zero] at k0
  rw [← Go.Deep.add_add] at k1 k2 k3 k4
  have hs : ∀ (p : Addr) (i : Nat), p.add (i + 1) = { p with off := p.off + (i + 1), spot := none } := fun p i => by unfold Addr.add; simp
  rw [hs _ 0] at k1
  rw [hs _ 1] at k2
  rw [hs _ 2] at k3
  rw [hs _ 3] at k4
  exact ⟨ad, e, k0, k1, k2, k3, k4⟩
theorem flat_set (l : List Tq) (k : Nat) (m : Tq) (s : ByteArray) (h : l[k]? = some m) : (l.flatMap enc_tk).set (k * 5 + 4) (.string s) = (l.set k ⟨{ m.t with tx := s }, m.A, m.c⟩).flatMap enc_tk := by
  induction l generalizing k with
  | nil => simp at h
  | cons a l ih =>
    cases k with
    | zero =>
      simp only [List.getElem?_cons_zero, Option.some.injEq] at h
      subst h
      rfl
    | succ k =>
      rw [List.flatMap_cons, List.set_cons_succ, List.flatMap_cons, ← ih k (by simpa using h), List.set_append_right _ _ (by rw [(encOk_tk a).1]; omega), (encOk_tk a).1, show (k + 1) * 5 + 4 - 5 = k * 5 + 4 by omega]
/-- A text is written into one of them. -/
theorem RowK.setTx {w : World} {base : Nat} {v : Value} {l : List Tq} {k : Nat} {m : Tq} (h : RowK w base v l) (hk : l[k]? = some m) (s : ByteArray) :
    ∃ g c, v = .slice (some ⟨g, 0, none⟩) l.length c ∧ base ≤ g ∧ w.cell? ⟨g, k * 5, none⟩ = some (.int .i64 m.t.kd) ∧ w.cell? ⟨g, k * 5 + 4, none⟩ = some (.string m.t.tx) ∧ w.frozen? ⟨g, k * 5 + 4, none⟩ = false ∧
      RowK (w.setCell ⟨g, k * 5 + 4, none⟩ (.string s)) base v (l.set k ⟨{ m.t with tx := s }, m.A, m.c⟩) := by
  have hkl := (List.getElem?_eq_some_iff.1 hk).1
  obtain ⟨g, cap, rest, hv, hbg, hb, hnc, hcm, hrl⟩ := own_parts h.1 (by omega)
  have hlen := row_len encOk_tk l
  have hjl : k * 5 + 4 < (l.flatMap enc_tk).length := by rw [hlen]; omega
  have k0 := row_at encOk_tk l k 0 m _ hk rfl
  have k4 := row_at encOk_tk l k 4 m _ hk rfl
  have c0 : w.cell? ⟨g, k * 5, none⟩ = some (.int .i64 m.t.kd) := by
    rw [hb.cell, List.getElem?_toArray, List.getElem?_append_left (by omega)]; exact k0
  have c4 : w.cell? ⟨g, k * 5 + 4, none⟩ = some (.string m.t.tx) := by
    rw [hb.cell, List.getElem?_toArray, List.getElem?_append_left hjl]; exact k4
  have hb' := own_set1 (u := .string s) hb hjl
  rw [flat_set l k m s hk] at hb'
  refine ⟨g, cap, hv, hbg, c0, c4, hb.frozen _ (.inr (Nat.zero_le _)), ?_, fun x hx => ?_⟩
  · rw [hv, List.length_set]
    exact own_of_blk hbg hb' (by rw [row_len encOk_tk, List.length_set]) hnc hcm hrl
  · rcases List.mem_or_eq_of_mem_set hx with hx | rfl
    · exact (h.2 x hx).set hb tokat_ne _ _
    · exact (h.2 m (List.mem_of_getElem? hk)).set hb tokat_ne _ _
/-- Attributes stay where a row of tokens grows. -/
theorem RowA.grown {w w' : World} {base base2 : Nat} {v : Value} {l : List Tq} {va : Value} {al : List At} (h : RowA w base2 va al) (hk : w.ownsRow base 34 5 v l.length (l.flatMap enc_tk)) (hg : w.grownBy w' v.ownBlock) : RowA w' base2 va al := by
  refine owns_but h (But.of_grown hg (S := fun k => v.ownBlock = some k) (fun k hk => hk)) fun g hg' e => ?_
  rcases hk.2 with ⟨hv, _⟩ | ⟨g2, cap, cur, hv, _, hb, _⟩
  · rw [hv] at e; cases e
  · rw [hv] at e
    have e : some g2 = some g := e
    cases e
    exact h.apart (t := 34) (fr := (0, 0)) hb tokat_ne hg'
/-- One more is appended. -/
theorem RowK.grow {w w' : World} {base : Nat} {v v' : Value} {l : List Tq} {m : Tq} (h : RowK w base v l) (hm : RowA w 0 (.slice m.A m.t.al.length m.c) m.t.al) (ho : w'.ownsRow base 34 5 v' (l.length + 1) (l.flatMap enc_tk ++ enc_tk m)) (hg : w.grownBy w' v.ownBlock) :
    RowK w' base v' (l ++ [m]) := by
  refine ⟨by rw [List.length_append, List.flatMap_append]; simpa using ho, fun x hx => ?_⟩
  rcases List.mem_append.1 hx with hx | hx
  · exact (h.2 x hx).grown h.1 hg
  · rw [List.mem_singleton] at hx
    subst hx
    exact hm.grown h.1 hg
theorem rd_one_tk {w : World} {b : Nat} {m : Tq} (h : Blk w b 34 (enc_tk m).toArray (0, 0)) : Rd w (some ⟨b, 0, none⟩) 1 5 (enc_tk m) :=
  ⟨rfl, (encOk_tk m).2, fun _ => ⟨_, rfl, fun j u hu => by rw [add0, h.cell j]; simpa using hu⟩⟩
end Go.Proofs.Ytjghkiphfpeocaa
