/- Arguments that are slices of structs, of any number of one-cell fields, slices among them: what the walk is told of them. No program in sight. -/
import Derived.Test.YtjghkiphfpeocaaOwn
import Derived.Deep.Slices
import Derived.Deep.Fields
import Derived.ChangeSame
import Derived.ChangeSlices
import Derived.ProofKit
namespace Go.Proofs.Ytjghkiphfpeocaa
open Go.ChangeShapes Go.WideShapes Go.ChangeAt Go.RowKit Go.Deep

theorem listOf {α : Type} (n : Nat) (P : Nat → α → Prop) (h : ∀ i, i < n → ∃ y, P i y) : ∃ l : List α, l.length = n ∧ ∀ i y, l[i]? = some y → P i y := by
  induction n with
  | zero => exact ⟨[], rfl, fun i y h => by simp at h⟩
  | succ n ih =>
    obtain ⟨l, hl, hp⟩ := ih (fun i hi => h i (by omega))
    obtain ⟨y, hy⟩ := h n (by omega)
    refine ⟨l ++ [y], by simp [hl], fun i z hz => ?_⟩
    rcases Nat.lt_or_ge i l.length with hi | hi
    · rw [List.getElem?_append_left hi] at hz
      exact hp i z hz
    · rw [List.getElem?_append_right hi] at hz
      have : i - l.length = 0 := by
        rcases Nat.eq_zero_or_pos (i - l.length) with h0 | h0
        · exact h0
        · rw [List.getElem?_eq_none (by simp; omega)] at hz; cases hz
      rw [this] at hz
      simp at hz
      subst hz
      rw [show i = n by omega]
      exact hy

/-- A row read element by element. -/
theorem rd_of {α : Type} {en : α → List Value} {K : Nat} (hE : EncOk en K) (hK : 0 < K) {w : World} {a : Addr} {l : List α} {n : Nat} (hn : n = l.length)
    (hp : ∀ i y, l[i]? = some y → ∀ j u, (en y)[j]? = some u → w.cell? (a.add (i * K + j)) = some u) : Rd w (some a) n K (l.flatMap en) := by
  subst hn
  refine ⟨by rw [row_len hE], row_one hE l, fun _ => ⟨a, rfl, fun j u hu => ?_⟩⟩
  have hjl : j < (l.flatMap en).length := (List.getElem?_eq_some_iff.1 hu).1
  rw [row_len hE] at hjl
  have hi : j / K < l.length := (Nat.div_lt_iff_lt_mul hK).2 hjl
  obtain ⟨y, hy⟩ : ∃ y, l[j / K]? = some y := ⟨_, List.getElem?_eq_getElem hi⟩
  have hj : j % K < (en y).length := by rw [(hE y).1]; exact Nat.mod_lt _ hK
  obtain ⟨u', hu'⟩ : ∃ u', (en y)[j % K]? = some u' := ⟨_, List.getElem?_eq_getElem hj⟩
  have hrow := row_at hE l (j / K) (j % K) y u' hy hu'
  have hjj : j / K * K + j % K = j := by rw [Nat.mul_comm]; exact Nat.div_add_mod j K
  rw [hjj] at hrow
  rw [hrow] at hu
  have hue : u' = u := Option.some.inj hu
  rw [← hue]
  have := hp (j / K) y hy (j % K) u' hu'
  rw [hjj] at this
  exact this

section
variable {H : Type} {enc : TypeId × Value → H} {P : Program} {w : World} {base : Nat} {held : Bool}
/-- What is told of one cell. -/
def Told (enc : TypeId × Value → H) (P : Program) (w : World) (base : Nat) (held : Bool) (t : TypeId) (v : Value) : Prop := ∃ n y, DataW.trod enc P w base (fun _ => true) held n t [v] = some y
theorem told_slice {t e : TypeId} {v : Value} (ht : P.underlying t = some (.slice e)) (h : Told enc P w base held t v) : ∃ A n c, v = .slice A n c := by
  obtain ⟨fuel, y, hf⟩ := h
  rcases open_slice ht hf with ⟨hcs, _⟩ | ⟨a, len, cap, _, _, _, _, hcs, _⟩
  · simp at hcs; exact ⟨_, _, _, hcs⟩
  · simp at hcs; exact ⟨_, _, _, hcs⟩
theorem told_int {t : TypeId} {k : IntKind} {v : Value} (ht : P.underlying t = some (.int k)) (h : Told enc P w base held t v) : ∃ z : Int, v = .int k z ∧ (Lit.int k z).wf = true := by
  obtain ⟨fuel, y, hf⟩ := h
  obtain ⟨z, hz, _, hw⟩ := DataW.trod_int ht hf
  exact ⟨z, by simpa using hz, hw⟩
theorem told_string {t : TypeId} {v : Value} (ht : P.underlying t = some .string) (h : Told enc P w base held t v) : ∃ s : ByteArray, v = .string s ∧ s.size ≤ maxLen := by
  obtain ⟨fuel, y, hf⟩ := h
  obtain ⟨z, hz, _, hw⟩ := DataW.trod_string ht hf
  exact ⟨z, by simpa using hz, hw⟩
theorem told_bool {t : TypeId} {v : Value} (ht : P.underlying t = some .bool) (h : Told enc P w base held t v) : ∃ b : Bool, v = .bool b := by
  obtain ⟨fuel, y, hf⟩ := h
  obtain ⟨z, hz, _⟩ := DataW.trod_bool ht hf
  exact ⟨z, by simpa using hz⟩
theorem told_arg {t : TypeId} {A : Option Addr} {n c : Nat} {d : DataW H} {ps : List MemPlace} (h : DataW.Trod enc P w base (fun _ => true) held t (.slice A n c) d ps) : Told enc P w base held t (.slice A n c) := by
  obtain ⟨fuel, hf⟩ := h
  exact ⟨fuel, _, by simpa [Value.cells] using hf⟩

theorem rd_rows {t e : TypeId} {fs : Array Field} {α : Type} {en : α → List Value} {K : Nat} {Q : α → Prop} (hE : EncOk en K) (hK0 : 0 < K) (ht : P.underlying t = some (.slice e)) (he : P.underlying e = some (.struct fs)) (hone : oneCellFields P fs = true) (hC : P.cellsOf e = fs.size) (hK : fs.size = K)
    (dec : ∀ vs : List Value, vs.length = K → (∀ (j : Nat) (f : Field) (v : Value), fs[j]? = some f → vs[j]? = some v → Told enc P w base held f.type v) → ∃ x, Q x ∧ en x = vs)
    {A : Option Addr} {n c : Nat} (h : Told enc P w base held t (.slice A n c)) :
    ∃ l : List α, n = l.length ∧ Rd w A n K (l.flatMap en) ∧ (∀ x ∈ l, Q x) ∧ n ≤ c ∧ c ≤ maxLen := by
  obtain ⟨fuel, y, hfu⟩ := h
  rcases open_slice ht hfu with ⟨hcs, _⟩ | ⟨a, len, cap, m, k, D, Pl, hcs, _, hl, hm, hmm, _, hi⟩
  · simp at hcs
    obtain ⟨rfl, rfl, rfl⟩ := hcs
    exact ⟨[], rfl, ⟨by simp, by simp, fun h => absurd h (by omega)⟩, by simp, Nat.le_refl _, Nat.zero_le _⟩
  · simp at hcs
    obtain ⟨rfl, rfl, rfl⟩ := hcs
    have hmc : m = c := by simpa using hmm
    obtain ⟨l, hll, hp⟩ := listOf n (fun i (y : α) => Q y ∧ ∀ j u, (en y)[j]? = some u → w.cell? (a.add (i * K + j)) = some u) (fun i hin => by
      obtain ⟨cs', hcl, htr⟩ := hi i (by omega)
      rw [hC, hK] at hcl
      obtain ⟨_, hlen, hat⟩ := World.cells?_some hcl
      obtain ⟨xs, n', _, _, _, hxl, hfld⟩ := DataW.trod_struct he htr
      obtain ⟨x, hq, hx⟩ := dec cs' hlen (fun j f v hj hv => by
        obtain ⟨ho, hk⟩ := hone_of hone j f hj
        have hjl : j < cs'.length := (List.getElem?_eq_some_iff.1 hv).1
        have hv' : cs'[j] = v := (List.getElem?_eq_some_iff.1 hv).2
        have hx := hfld j f hj
        have h1 : (cs'.drop j).take 1 = [v] := by rw [List.drop_eq_getElem_cons hjl, hv']; rfl
        rw [ho, hk, h1] at hx
        have hxs : xs[j]? = some (xs[j]'(by omega)) := List.getElem?_eq_getElem _
        exact ⟨_, _, hx.trans hxs⟩)
      refine ⟨x, hq, fun j u hu => ?_⟩
      rw [hx] at hu
      have hjl : j < cs'.length := (List.getElem?_eq_some_iff.1 hu).1
      rw [← Go.Deep.add_add, hat j (by omega)]
      exact hu)
    exact ⟨l, hll.symm, rd_of hE hK0 hll.symm (fun i y hy => (hp i y hy).2), fun x hx => by
      obtain ⟨i, hi, rfl⟩ := List.mem_iff_getElem.1 hx
      exact (hp i _ (List.getElem?_eq_getElem hi)).1, hl, hm⟩
end
end Go.Proofs.Ytjghkiphfpeocaa
