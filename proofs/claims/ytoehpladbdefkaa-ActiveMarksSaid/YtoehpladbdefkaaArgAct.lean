/- An argument that is a slice of asks of layer 19: what the walk is told of it. -/
import Derived.Test.YtoehpladbdefkaaAttr
import Derived.Deep.LoopGhost
namespace Go.Proofs.Ytoehpladbdefkaa
open Go.ChangeShapes Go.WideShapes Go.ChangeAt Go.RowKit Go.Deep

/-- An ask of layer 19. -/
structure Aq where
  kind : Int
  h : Int
  n : Int
  i : Int
  a : Option Addr
  an : Nat
  ac : Nat
def enc_aq : Aq → List Value := fun x => [.int .i64 x.kind, .int .i64 x.h, .int .i64 x.n, .int .i64 x.i, .slice x.a x.an x.ac]
def val_aq : Aq → Value := fun x => .agg #[.int .i64 x.kind, .int .i64 x.h, .int .i64 x.n, .int .i64 x.i, .slice x.a x.an x.ac]
theorem encOk_aq : EncOk enc_aq 5 := fun x => ⟨rfl, fun u hu => List.all_eq_true.1 (show (enc_aq x).all (fun u => u.oneCell') = true from rfl) u hu⟩
def Aq.ok (w : World) (x : Aq) : Prop := ∃ l, RdA w x.a x.an l ∧ (∀ y ∈ l, y.ok) ∧ x.an ≤ maxLen
theorem Aq.ok.keep {w w1 : World} {x : Aq} (h : x.ok w) (hb : Below w.heap.size w w1) : x.ok w1 := let ⟨l, h1, h2⟩ := h; ⟨l, ⟨h1.1, h1.2.keep hb⟩, h2⟩
section
variable {H : Type} {enc : TypeId × Value → H} {P : Program} {w : World} {base : Nat} {held : Bool}
theorem rd_aqs {t e ti ta te ts : TypeId} {f0 f1 f2 f3 f4 g0 g1 : Field} (ht : P.underlying t = some (.slice e)) (he : P.underlying e = some (.struct #[f0, f1, f2, f3, f4])) (hone : oneCellFields P #[f0, f1, f2, f3, f4] = true) (hC : P.cellsOf e = 5)
    (h0 : f0.type = ti ∧ f1.type = ti ∧ f2.type = ti ∧ f3.type = ti ∧ f4.type = ta) (hi : P.underlying ti = some (.int .i64)) (hta : P.underlying ta = some (.slice te)) (hte : P.underlying te = some (.struct #[g0, g1])) (honea : oneCellFields P #[g0, g1] = true) (hCa : P.cellsOf te = 2) (hg0 : g0.type = ts) (hg1 : g1.type = ts) (hs : P.underlying ts = some .string)
    {A : Option Addr} {n c : Nat} (h : Told enc P w base held t (.slice A n c)) :
    ∃ l : List Aq, n = l.length ∧ Rd w A n 5 (l.flatMap enc_aq) ∧ (∀ x ∈ l, x.ok w) ∧ n ≤ c ∧ c ≤ maxLen :=
  rd_rows (en := enc_aq) (K := 5) (Q := Aq.ok w) encOk_aq (by decide) ht he hone hC rfl (fun vs hl hf => by
    match vs, hl with
    | [v0, v1, v2, v3, v4], _ =>
      have k0 := hf 0 f0 v0 rfl rfl
      have k1 := hf 1 f1 v1 rfl rfl
      have k2 := hf 2 f2 v2 rfl rfl
      have k3 := hf 3 f3 v3 rfl rfl
      have k4 := hf 4 f4 v4 rfl rfl
      rw [h0.1] at k0
      rw [h0.2.1] at k1
      rw [h0.2.2.1] at k2
      rw [h0.2.2.2.1] at k3
      rw [h0.2.2.2.2] at k4
      obtain ⟨z0, rfl, _⟩ := told_int hi k0
      obtain ⟨z1, rfl, _⟩ := told_int hi k1
      obtain ⟨z2, rfl, _⟩ := told_int hi k2
      obtain ⟨z3, rfl, _⟩ := told_int hi k3
      obtain ⟨A4, n4, c4, rfl⟩ := told_slice hta k4
      obtain ⟨l, hr, hq, hn, hc⟩ := rd_attrs hta hte honea hCa hg0 hg1 hs k4
      exact ⟨⟨z0, z1, z2, z3, A4, n4, c4⟩, ⟨l, hr, hq, Nat.le_trans hn hc⟩, rfl⟩) h
theorem cells_aq {w : World} {ad : Addr} {l : List Aq} {j : Nat} {y : Aq} (hc : ∀ j u, (l.flatMap enc_aq)[j]? = some u → w.cell? (ad.add j) = some u) (hy : l[j]? = some y) :
    w.cell? (ad.add (j * 5)) = some (.int .i64 y.kind) ∧ w.cell? { ad.add (j * 5) with off := (ad.add (j * 5)).off + 1, spot := none } = some (.int .i64 y.h) ∧ w.cell? { ad.add (j * 5) with off := (ad.add (j * 5)).off + 2, spot := none } = some (.int .i64 y.n) ∧
    w.cell? { ad.add (j * 5) with off := (ad.add (j * 5)).off + 3, spot := none } = some (.int .i64 y.i) ∧ w.cell? { ad.add (j * 5) with off := (ad.add (j * 5)).off + 4, spot := none } = some (.slice y.a y.an y.ac) := by
  have k0 := hc (j * 5 + 0) _ (row_at encOk_aq l j 0 y _ hy rfl)
  have k1 := hc (j * 5 + 1) _ (row_at encOk_aq l j 1 y _ hy rfl)
  have k2 := hc (j * 5 + 2) _ (row_at encOk_aq l j 2 y _ hy rfl)
  have k3 := hc (j * 5 + 3) _ (row_at encOk_aq l j 3 y _ hy rfl)
  have k4 := hc (j * 5 + 4) _ (row_at encOk_aq l j 4 y _ hy rfl)
  simp only [Nat.add_zero] at k0
  rw [← Go.Deep.add_add] at k1 k2 k3 k4
  exact ⟨k0, (Addr.add_succ' (ad.add (j * 5)) 0) ▸ k1, (Addr.add_succ' (ad.add (j * 5)) 1) ▸ k2, (Addr.add_succ' (ad.add (j * 5)) 2) ▸ k3, (Addr.add_succ' (ad.add (j * 5)) 3) ▸ k4⟩
end
end Go.Proofs.Ytoehpladbdefkaa
