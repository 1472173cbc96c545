/- An argument that is a slice of asks (layer 18): what the walk is told of it. -/
import Derived.Test.YtoehpladbdefkaaOpenEl
import Derived.Deep.Slices
import Derived.ChangeSlices
import Derived.ProofKit
import Derived.Deep.Fields
namespace Go.Proofs.Ytoehpladbdefkaa
open Go.ChangeShapes Go.WideShapes Go.ChangeAt Go.RowKit Go.Deep

theorem list_of {α : Type} (n : Nat) (P : Nat → α → Prop) (h : ∀ i, i < n → ∃ y, P i y) : ∃ l : List α, l.length = n ∧ ∀ i y, l[i]? = some y → P i y := by
  induction n with
  | zero => exact ⟨[], rfl, fun i y h => by simp at h⟩
  | succ n ih =>
    obtain ⟨l, hl, hp⟩ := ih (fun i hi => h i (by omega))
    obtain ⟨y, hy⟩ := h n (by omega)
    refine ⟨l ++ [y], by simp [hl], fun i z hz => ?_⟩
    rcases Nat.lt_or_ge i l.length with hi | hi
    · rw [List.getElem?_append_left hi] at hz
      exact hp i z hz
    · rw [List.getElem?_append_right hi] at hz
      have : i - l.length = 0 := by
        rcases Nat.eq_zero_or_pos (i - l.length) with h0 | h0
        · exact h0
        · rw [List.getElem?_eq_none (by simp; omega)] at hz; cases hz
      rw [this] at hz
      simp at hz
      subst hz
      rw [show i = n by omega]
      exact hy

theorem rd_asks {H : Type} {enc : TypeId × Value → H} {P : Program} {w : World} {base : Nat} {held : Bool} {t e ti tb : TypeId} {fs : Array Field} (ht : P.underlying t = some (.slice e)) (he : P.underlying e = some (.struct fs)) (hc : P.cellsOf e = 5) (hfs : fs.size = 5)
    (hf : ∀ k, k < 4 → ∃ f, fs[k]? = some f ∧ f.offset = k ∧ P.cellsOf f.type = 1 ∧ f.type = ti) (hf4 : ∃ f, fs[4]? = some f ∧ f.offset = 4 ∧ P.cellsOf f.type = 1 ∧ f.type = tb) (hti : P.underlying ti = some (.int .i64)) (htb : P.underlying tb = some .bool)
    {A : Option Addr} {n c : Nat} {d : DataW H} {ps : List MemPlace} (h : DataW.Trod enc P w base (fun _ => true) held t (.slice A n c) d ps) :
    ∃ l : List As, n = l.length ∧ Rd w A n 5 (l.flatMap enc_as) ∧ n ≤ c ∧ c ≤ maxLen := by
  obtain ⟨fuel, hfu⟩ := h
  rcases open_slice ht hfu with ⟨hcs, _⟩ | ⟨a, len, cap, m, k, D, Pl, hcs, _, hl, hm, hmm, _, hi⟩
  · simp [Value.cells] at hcs
    obtain ⟨rfl, rfl, rfl⟩ := hcs
    exact ⟨[], rfl, ⟨rfl, by simp, fun h => absurd h (by omega)⟩, Nat.le_refl _, Nat.zero_le _⟩
  · simp [Value.cells] at hcs
    obtain ⟨rfl, rfl, rfl⟩ := hcs
    have hmc : m = c := by simpa using hmm
    obtain ⟨l, hll, hp⟩ := list_of n (fun i (y : As) => ∀ j u, (enc_as y)[j]? = some u → w.cell? (a.add (i * 5 + j)) = some u) (fun i hin => by
      obtain ⟨cs', hcl, htr⟩ := hi i (by omega)
      rw [hc] at hcl
      obtain ⟨_, hlen, hat⟩ := World.cells?_some hcl
      obtain ⟨xs, n', _, _, _, _, hfld⟩ := DataW.trod_struct he htr
      have one : ∀ k (hk : k < 5), (cs'.drop k).take 1 = [cs'[k]'(by omega)] := fun k hk => by
        rw [List.drop_eq_getElem_cons (by omega)]; rfl
      have gi : ∀ k (hk : k < 4), ∃ z : Int, cs'[k]'(by omega) = .int .i64 z := fun k hk => by
        obtain ⟨f, h1, h2, h3, h4⟩ := hf k hk
        have hx := hfld k f h1
        have hks : k < fs.size := by omega
        rw [h2, h3, one k (by omega), h4] at hx
        cases hxx : xs[k]? with
        | none => rw [List.getElem?_eq_none_iff] at hxx; omega
        | some x' =>
          rw [hxx] at hx
          obtain ⟨z, hz, _⟩ := DataW.trod_int hti hx
          exact ⟨z, by simpa using hz⟩
      obtain ⟨z0, h0⟩ := gi 0 (by omega)
      obtain ⟨z1, h1⟩ := gi 1 (by omega)
      obtain ⟨z2, h2⟩ := gi 2 (by omega)
      obtain ⟨z3, h3⟩ := gi 3 (by omega)
      obtain ⟨b4, h4⟩ : ∃ b : Bool, cs'[4]'(by omega) = .bool b := by
        obtain ⟨f, g1, g2, g3, g4⟩ := hf4
        have hx := hfld 4 f g1
        subst g4
        rw [g2, g3, one 4 (by omega)] at hx
        cases hxx : xs[4]? with
        | none => rw [List.getElem?_eq_none_iff] at hxx; omega
        | some x' =>
          rw [hxx] at hx
          obtain ⟨z, hz, _⟩ := DataW.trod_bool htb hx
          exact ⟨z, by simpa using hz⟩
      refine ⟨⟨z0, z1, z2, z3, b4⟩, fun j u hu => ?_⟩
      have hcs5 : cs' = enc_as ⟨z0, z1, z2, z3, b4⟩ := by
        apply List.ext_getElem (by rw [hlen]; rfl)
        intro k hk1 hk2
        have hk5 : k < 5 := by omega
        match k, hk5 with
        | 0, _ => exact h0
        | 1, _ => exact h1
        | 2, _ => exact h2
        | 3, _ => exact h3
        | 4, _ => exact h4
      have hj5 : j < 5 := (List.getElem?_eq_some_iff.1 hu).1
      rw [← Go.Deep.add_add]
      rw [hat j hj5, hcs5]
      exact hu)
    refine ⟨l, hll.symm, ⟨by rw [row_len encOk_as, hll], row_one encOk_as l, fun _ => ⟨a, rfl, fun j u hu => ?_⟩⟩, hl, hm⟩
    have hjl : j < (l.flatMap enc_as).length := (List.getElem?_eq_some_iff.1 hu).1
    rw [row_len encOk_as] at hjl
    have hi5 : j / 5 < l.length := by omega
    obtain ⟨y, hy⟩ : ∃ y, l[j / 5]? = some y := ⟨_, List.getElem?_eq_getElem hi5⟩
    have hj5 : j % 5 < (enc_as y).length := Nat.mod_lt _ (by decide)
    obtain ⟨u', hu'⟩ : ∃ u', (enc_as y)[j % 5]? = some u' := ⟨_, List.getElem?_eq_getElem hj5⟩
    have hrow := row_at encOk_as l (j / 5) (j % 5) y u' hy hu'
    have hjj : j / 5 * 5 + j % 5 = j := by omega
    rw [hjj] at hrow
    rw [hrow] at hu
    have hue : u' = u := Option.some.inj hu
    rw [← hue]
    have := hp (j / 5) y hy (j % 5) u' hu'
    rw [hjj] at this
    exact this
end Go.Proofs.Ytoehpladbdefkaa
