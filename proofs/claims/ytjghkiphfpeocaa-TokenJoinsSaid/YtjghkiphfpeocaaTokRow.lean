/- Lists of tokens, as they lie in memory. -/
import Derived.Test.YtjghkiphfpeocaaTokF
import Derived.Test.YtjghkiphfpeocaaArgTok
namespace Go.Proofs.Ytjghkiphfpeocaa
open Go.RowKit

/-- A token where it lies: its attributes by a slice. -/
structure Tq where
  t : Tk
  A : Option Addr
  c : Nat
def enc_tk : Tq → List Value := fun m => [.int .i64 m.t.kd, .string m.t.nm, .slice m.A m.t.al.length m.c, .bool m.t.sf, .string m.t.tx]
theorem encOk_tk : EncOk enc_tk 5 := fun x => ⟨rfl, fun u hu => List.all_eq_true.1 (show (enc_tk x).all (fun u => u.oneCell') = true from rfl) u hu⟩
theorem info_tk : (Try.prog.info? 34).map (fun i => (i.zero, i.size, i.bytes)) = some (some (.agg #[.int .i64 0, .string ⟨#[]⟩, .slice none 0 0, .bool false, .string ⟨#[]⟩] : Value), 5, 72) := by kernel_rfl
/-- A list of tokens that can be read. -/
def RdK (w : World) (A : Option Addr) (n : Nat) (l : List Tq) : Prop := n = l.length ∧ Rd w A n 5 (l.flatMap enc_tk) ∧ ∀ m ∈ l, RdA w m.A m.t.al.length m.t.al
/-- .. and that is the call's own. -/
def RowK (w : World) (base : Nat) (v : Value) (l : List Tq) : Prop := w.ownsRow base 34 5 v l.length (l.flatMap enc_tk) ∧ ∀ m ∈ l, RowA w base (.slice m.A m.t.al.length m.c) m.t.al
theorem RdK.keep {w w' : World} {A : Option Addr} {n : Nat} {l : List Tq} (h : RdK w A n l) (hb : Below w.heap.size w w') : RdK w' A n l := ⟨h.1, h.2.1.keep hb, fun m hm => (h.2.2 m hm).keep hb⟩
theorem RowK.keep {w w' : World} {base : Nat} {v : Value} {l : List Tq} (h : RowK w base v l) (hb : Below w.heap.size w w') : RowK w' base v l :=
  ⟨owns_but h.1 (But.of_below hb) (S := fun _ => False) (fun _ _ h => h), fun m hm => (h.2 m hm).keep hb⟩
theorem rowa_rd {w : World} {base : Nat} {A : Option Addr} {n c : Nat} {l : List At} (h : RowA w base (.slice A n c) l) : RdA w A n l := by
  obtain ⟨A', c', e, hr⟩ := h.read
  injection e with e1 e2 e3
  rw [e1, e2]; exact hr
theorem RowK.read {w : World} {base : Nat} {v : Value} {l : List Tq} (h : RowK w base v l) : ∃ A c, v = .slice A l.length c ∧ l.length ≤ c ∧ RdK w A l.length l := by
  obtain ⟨A, c, hv, hc, hr, _⟩ := own_rd h.1 (row_one encOk_tk l)
  exact ⟨A, c, hv, hc, rfl, hr, fun m hm => rowa_rd (h.2 m hm)⟩
theorem RowK.nil (w : World) (base : Nat) : RowK w base (.slice none 0 0) [] := ⟨World.ownsRow_nil _ _ _ _, by simp⟩
theorem rdK_at {w : World} {A : Option Addr} {l : List Tq} {n j : Nat} {m : Tq} (h : RdK w A n l) (hx : l[j]? = some m) :
    ∃ ad, A = some ad ∧ w.cell? (ad.add (j * 5)) = some (.int .i64 m.t.kd) ∧ w.cell? { ad.add (j * 5) with off := (ad.add (j * 5)).off + 1, spot := none } = some (.string m.t.nm) ∧ w.cell? { ad.add (j * 5) with off := (ad.add (j * 5)).off + 2, spot := none } = some (.slice m.A m.t.al.length m.c) ∧
      w.cell? { ad.add (j * 5) with off := (ad.add (j * 5)).off + 3, spot := none } = some (.bool m.t.sf) ∧ w.cell? { ad.add (j * 5) with off := (ad.add (j * 5)).off + 4, spot := none } = some (.string m.t.tx) := by
  have hj := (List.getElem?_eq_some_iff.1 hx).1
  obtain ⟨ad, e, hc⟩ := h.2.1.2.2 (by rw [h.1]; omega)
  have k0 := hc (j * 5 + 0) _ (row_at encOk_tk l j 0 m _ hx rfl)
  have k1 := hc (j * 5 + 1) _ (row_at encOk_tk l j 1 m _ hx rfl)
  have k2 := hc (j * 5 + 2) _ (row_at encOk_tk l j 2 m _ hx rfl)
  have k3 := hc (j * 5 + 3) _ (row_at encOk_tk l j 3 m _ hx rfl)
  have k4 := hc (j * 5 + 4) _ (row_at encOk_tk l j 4 m _ hx rfl)
  simp only [Nat.add_zero] at k0
  rw [← Go.Deep.add_add] at k1 k2 k3 k4
  have hs : ∀ (p : Addr) (i : Nat), p.add (i + 1) = { p with off := p.off + (i + 1), spot := none } := fun p i => by unfold Addr.add; simp
  rw [hs _ 0] at k1
  rw [hs _ 1] at k2
  rw [hs _ 2] at k3
  rw [hs _ 3] at k4
  exact ⟨ad, e, k0, k1, k2, k3, k4⟩
theorem flat_set (l : List Tq) (k : Nat) (m : Tq) (s : ByteArray) (h : l[k]? = some m) : (l.flatMap enc_tk).set (k * 5 + 4) (.string s) = (l.set k ⟨{ m.t with tx := s }, m.A, m.c⟩).flatMap enc_tk := by
  induction l generalizing k with
  | nil => simp at h
  | cons a l ih =>
    cases k with
    | zero =>
      simp only [List.getElem?_cons_zero, Option.some.injEq] at h
      subst h
      rfl
    | succ k =>
      rw [List.flatMap_cons, List.set_cons_succ, List.flatMap_cons, ← ih k (by simpa using h), List.set_append_right _ _ (by rw [(encOk_tk a).1]; omega), (encOk_tk a).1, show (k + 1) * 5 + 4 - 5 = k * 5 + 4 by omega]
/-- A text is written into one of them. -/
theorem RowK.setTx {w : World} {base : Nat} {v : Value} {l : List Tq} {k : Nat} {m : Tq} (h : RowK w base v l) (hk : l[k]? = some m) (s : ByteArray) :
    ∃ g c, v = .slice (some ⟨g, 0, none⟩) l.length c ∧ base ≤ g ∧ w.cell? ⟨g, k * 5, none⟩ = some (.int .i64 m.t.kd) ∧ w.cell? ⟨g, k * 5 + 4, none⟩ = some (.string m.t.tx) ∧ w.frozen? ⟨g, k * 5 + 4, none⟩ = false ∧
      RowK (w.setCell ⟨g, k * 5 + 4, none⟩ (.string s)) base v (l.set k ⟨{ m.t with tx := s }, m.A, m.c⟩) := by
  have hkl := (List.getElem?_eq_some_iff.1 hk).1
  obtain ⟨g, cap, rest, hv, hbg, hb, hnc, hcm, hrl⟩ := own_parts h.1 (by omega)
  have hlen := row_len encOk_tk l
  have hjl : k * 5 + 4 < (l.flatMap enc_tk).length := by rw [hlen]; omega
  have k0 := row_at encOk_tk l k 0 m _ hk rfl
  have k4 := row_at encOk_tk l k 4 m _ hk rfl
  have c0 : w.cell? ⟨g, k * 5, none⟩ = some (.int .i64 m.t.kd) := by
    rw [hb.cell, List.getElem?_toArray, List.getElem?_append_left (by omega)]; exact k0
  have c4 : w.cell? ⟨g, k * 5 + 4, none⟩ = some (.string m.t.tx) := by
    rw [hb.cell, List.getElem?_toArray, List.getElem?_append_left hjl]; exact k4
  have hb' := own_set1 (u := .string s) hb hjl
  rw [flat_set l k m s hk] at hb'
  refine ⟨g, cap, hv, hbg, c0, c4, hb.frozen _ (.inr (Nat.zero_le _)), ?_, fun x hx => ?_⟩
  · rw [hv, List.length_set]
    exact own_of_blk hbg hb' (by rw [row_len encOk_tk, List.length_set]) hnc hcm hrl
  · rcases List.mem_or_eq_of_mem_set hx with hx | rfl
    · exact (h.2 x hx).set hb tokat_ne _ _
    · exact (h.2 m (List.mem_of_getElem? hk)).set hb tokat_ne _ _
/-- Attributes stay where a row of tokens grows. -/
theorem RowA.grown {w w' : World} {base base2 : Nat} {v : Value} {l : List Tq} {va : Value} {al : List At} (h : RowA w base2 va al) (hk : w.ownsRow base 34 5 v l.length (l.flatMap enc_tk)) (hg : w.grownBy w' v.ownBlock) : RowA w' base2 va al := by
  refine owns_but h (But.of_grown hg (S := fun k => v.ownBlock = some k) (fun k hk => hk)) fun g hg' e => ?_
  rcases hk.2 with ⟨hv, _⟩ | ⟨g2, cap, cur, hv, _, hb, _⟩
  · rw [hv] at e; cases e
  · rw [hv] at e
    have e : some g2 = some g := e
    cases e
    exact h.apart (t := 34) (fr := (0, 0)) hb tokat_ne hg'
/-- One more is appended. -/
theorem RowK.grow {w w' : World} {base : Nat} {v v' : Value} {l : List Tq} {m : Tq} (h : RowK w base v l) (hm : RowA w base (.slice m.A m.t.al.length m.c) m.t.al) (ho : w'.ownsRow base 34 5 v' (l.length + 1) (l.flatMap enc_tk ++ enc_tk m)) (hg : w.grownBy w' v.ownBlock) :
    RowK w' base v' (l ++ [m]) := by
  refine ⟨by rw [List.length_append, List.flatMap_append]; simpa using ho, fun x hx => ?_⟩
  rcases List.mem_append.1 hx with hx | hx
  · exact (h.2 x hx).grown h.1 hg
  · rw [List.mem_singleton] at hx
    subst hx
    exact hm.grown h.1 hg
theorem rd_one_tk {w : World} {b : Nat} {m : Tq} (h : Blk w b 34 (enc_tk m).toArray (0, 0)) : Rd w (some ⟨b, 0, none⟩) 1 5 (enc_tk m) :=
  ⟨rfl, (encOk_tk m).2, fun _ => ⟨_, rfl, fun j u hu => by rw [add0, h.cell j]; simpa using hu⟩⟩
end Go.Proofs.Ytjghkiphfpeocaa
