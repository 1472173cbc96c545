/- An argument of type []api.Token, of type []bool: what the walk is told of it. -/
import Derived.Test.YtjghkiphfpeocaaTokRow
namespace Go.Proofs.Ytjghkiphfpeocaa
open Go.ChangeShapes Go.WideShapes Go.ChangeAt Go.RowKit Go.Deep

def enc_bool : Bool → List Value := fun x => [.bool x]
theorem encOk_bool : EncOk enc_bool 1 := fun x => ⟨rfl, fun u hu => List.all_eq_true.1 (show (enc_bool x).all (fun u => u.oneCell') = true from rfl) u hu⟩
section
variable {H : Type} {enc : TypeId × Value → H} {P : Program} {w : World} {base : Nat} {held : Bool}
theorem rd_toks {t tt ti ts ta tb te : TypeId} {f0 f1 f2 f3 f4 g0 g1 : Field} (htt : P.underlying tt = some (.slice t)) (ht : P.underlying t = some (.struct #[f0, f1, f2, f3, f4])) (hone : oneCellFields P #[f0, f1, f2, f3, f4] = true) (hC : P.cellsOf t = 5)
    (h0 : f0.type = ti ∧ f1.type = ts ∧ f2.type = ta ∧ f3.type = tb ∧ f4.type = ts) (hi : P.underlying ti = some (.int .i64)) (hs : P.underlying ts = some .string) (hb : P.underlying tb = some .bool)
    (hta : P.underlying ta = some (.slice te)) (hte : P.underlying te = some (.struct #[g0, g1])) (honea : oneCellFields P #[g0, g1] = true) (hCa : P.cellsOf te = 2) (hg0 : g0.type = ts) (hg1 : g1.type = ts)
    {A : Option Addr} {n c : Nat} (h : Told enc P w base held tt (.slice A n c)) :
    ∃ l : List Tq, RdK w A n l ∧ (∀ m ∈ l, m.t.ok) ∧ n ≤ c ∧ c ≤ maxLen := by
  obtain ⟨l, h1, h2, h3, h4, h5⟩ := rd_rows (en := enc_tk) (K := 5) (Q := fun m => m.t.ok ∧ RdA w m.A m.t.al.length m.t.al) encOk_tk (by decide) htt ht hone hC rfl (fun vs hl hf => by
    match vs, hl with
    | [v0, v1, v2, v3, v4], _ =>
      have k0 := hf 0 f0 v0 rfl rfl
      have k1 := hf 1 f1 v1 rfl rfl
      have k2 := hf 2 f2 v2 rfl rfl
      have k3 := hf 3 f3 v3 rfl rfl
      have k4 := hf 4 f4 v4 rfl rfl
      rw [h0.1] at k0
      rw [h0.2.1] at k1
      rw [h0.2.2.1] at k2
      rw [h0.2.2.2.1] at k3
      rw [h0.2.2.2.2] at k4
      obtain ⟨z0, rfl, _⟩ := told_int hi k0
      obtain ⟨s1, rfl, b1⟩ := told_string hs k1
      obtain ⟨A, n, c, rfl⟩ := told_slice hta k2
      obtain ⟨b3, rfl⟩ := told_bool hb k3
      obtain ⟨s4, rfl, b4⟩ := told_string hs k4
      obtain ⟨l, hr, hq, hn, hc⟩ := rd_attrs hta hte honea hCa hg0 hg1 hs k2
      obtain rfl := hr.1
      exact ⟨⟨⟨z0, s1, l, b3, s4⟩, A, c⟩, ⟨⟨b1, b4, Nat.le_trans hn hc, hq⟩, hr⟩, rfl⟩) h
  exact ⟨l, ⟨h1, h2, fun m hm => (h3 m hm).2⟩, fun m hm => (h3 m hm).1, h4, h5⟩
theorem rd_bools {t e : TypeId} (ht : P.underlying t = some (.slice e)) (he : P.underlying e = some .bool) (hC : P.cellsOf e = 1)
    {A : Option Addr} {n c : Nat} (h : Told enc P w base held t (.slice A n c)) :
    ∃ l : List Bool, n = l.length ∧ Rd w A n 1 (l.flatMap enc_bool) ∧ n ≤ c ∧ c ≤ maxLen := by
  obtain ⟨fuel, y, hfu⟩ := h
  rcases open_slice ht hfu with ⟨hcs, _⟩ | ⟨a, len, cap, m, k, D, Pl, hcs, _, hl, hm, hmm, _, hi⟩
  · simp at hcs
    obtain ⟨rfl, rfl, rfl⟩ := hcs
    exact ⟨[], rfl, ⟨by simp, by simp, fun h => absurd h (by omega)⟩, Nat.le_refl _, Nat.zero_le _⟩
  · simp at hcs
    obtain ⟨rfl, rfl, rfl⟩ := hcs
    have hmc : m = c := by simpa using hmm
    obtain ⟨l, hll, hp⟩ := listOf n (fun i (y : Bool) => ∀ j u, (enc_bool y)[j]? = some u → w.cell? (a.add (i * 1 + j)) = some u) (fun i hin => by
      obtain ⟨cs', hcl, htr⟩ := hi i (by omega)
      rw [hC] at hcl
      obtain ⟨_, hlen, hat⟩ := World.cells?_some hcl
      match cs', hlen with
      | [v], _ =>
        obtain ⟨z, hz, _⟩ := DataW.trod_bool he htr
        obtain rfl : v = .bool z := by simpa using hz
        refine ⟨z, fun j u hu => ?_⟩
        have hj : j < 1 := (List.getElem?_eq_some_iff.1 hu).1
        rw [← Go.Deep.add_add, hat j (by omega)]
        exact hu)
    exact ⟨l, hll.symm, rd_of encOk_bool (by decide) hll.symm hp, hl, hm⟩
end
end Go.Proofs.Ytjghkiphfpeocaa
