/- An argument of type api.Token: what the walk is told of it. -/
import Derived.Test.YtjghkiphfpeocaaTokF
import Derived.Test.YtjghkiphfpeocaaArgRows
namespace Go.Proofs.Ytjghkiphfpeocaa
open Go.ChangeShapes Go.WideShapes Go.ChangeAt Go.RowKit Go.Deep

section
variable {H : Type} {enc : TypeId × Value → H} {P : Program} {w : World} {base : Nat} {held : Bool}
theorem trod_fields {t : TypeId} {fs : Array Field} (ht : P.underlying t = some (.struct fs)) (hone : oneCellFields P fs = true) (hC : P.cellsOf t = fs.size) {cs : List Value} {y : DataW H × List MemPlace} {fuel : Nat}
    (h : DataW.trod enc P w base (fun _ => true) held fuel t cs = some y) :
    cs.length = fs.size ∧ ∀ (j : Nat) (f : Field) (v : Value), fs[j]? = some f → cs[j]? = some v → Told enc P w base held f.type v := by
  obtain ⟨xs, n', _, _, hlen, hxl, hfld⟩ := DataW.trod_struct ht h
  refine ⟨hlen.trans hC, fun j f v hj hv => ?_⟩
  obtain ⟨ho, hk⟩ := hone_of hone j f hj
  have hjl : j < cs.length := (List.getElem?_eq_some_iff.1 hv).1
  have hv' : cs[j] = v := (List.getElem?_eq_some_iff.1 hv).2
  have hx := hfld j f hj
  have h1 : (cs.drop j).take 1 = [v] := by rw [List.drop_eq_getElem_cons hjl, hv']; rfl
  rw [ho, hk, h1] at hx
  have hxs : xs[j]? = some (xs[j]'(by omega)) := List.getElem?_eq_getElem _
  exact ⟨_, _, hx.trans hxs⟩
theorem rd_tok {t ti ts ta tb te : TypeId} {f0 f1 f2 f3 f4 g0 g1 : Field} (ht : P.underlying t = some (.struct #[f0, f1, f2, f3, f4])) (hone : oneCellFields P #[f0, f1, f2, f3, f4] = true) (hC : P.cellsOf t = 5)
    (h0 : f0.type = ti ∧ f1.type = ts ∧ f2.type = ta ∧ f3.type = tb ∧ f4.type = ts) (hi : P.underlying ti = some (.int .i64)) (hs : P.underlying ts = some .string) (hb : P.underlying tb = some .bool)
    (hta : P.underlying ta = some (.slice te)) (hte : P.underlying te = some (.struct #[g0, g1])) (honea : oneCellFields P #[g0, g1] = true) (hCa : P.cellsOf te = 2) (hg0 : g0.type = ts) (hg1 : g1.type = ts)
    {cs : List Value} {y : DataW H × List MemPlace} {fuel : Nat} (h : DataW.trod enc P w base (fun _ => true) held fuel t cs = some y) :
    ∃ (tk : Tk) (A : Option Addr) (c : Nat), cs = [.int .i64 tk.kd, .string tk.nm, .slice A tk.al.length c, .bool tk.sf, .string tk.tx] ∧ RdA w A tk.al.length tk.al ∧ tk.ok := by
  obtain ⟨hl, hf⟩ := trod_fields ht hone hC h
  match cs, hl with
  | [v0, v1, v2, v3, v4], _ =>
    have k0 := hf 0 f0 v0 rfl rfl
    have k1 := hf 1 f1 v1 rfl rfl
    have k2 := hf 2 f2 v2 rfl rfl
    have k3 := hf 3 f3 v3 rfl rfl
    have k4 := hf 4 f4 v4 rfl rfl
    rw [h0.1] at k0
    rw [h0.2.1] at k1
    rw [h0.2.2.1] at k2
    rw [h0.2.2.2.1] at k3
    rw [h0.2.2.2.2] at k4
    obtain ⟨z0, rfl, _⟩ := told_int hi k0
    obtain ⟨s1, rfl, b1⟩ := told_string hs k1
    obtain ⟨A, n, c, rfl⟩ := told_slice hta k2
    obtain ⟨b3, rfl⟩ := told_bool hb k3
    obtain ⟨s4, rfl, b4⟩ := told_string hs k4
    obtain ⟨l, hr, hq, hn, hc⟩ := rd_attrs hta hte honea hCa hg0 hg1 hs k2
    obtain rfl := hr.1
    refine ⟨⟨z0, s1, l, b3, s4⟩, A, c, rfl, hr, b1, b4, ?_, hq⟩
    have := Nat.le_trans hn hc
    exact this
theorem rd_tokarg {t ti ts ta tb te : TypeId} {f0 f1 f2 f3 f4 g0 g1 : Field} (ht : P.underlying t = some (.struct #[f0, f1, f2, f3, f4])) (hone : oneCellFields P #[f0, f1, f2, f3, f4] = true) (hC : P.cellsOf t = 5)
    (h0 : f0.type = ti ∧ f1.type = ts ∧ f2.type = ta ∧ f3.type = tb ∧ f4.type = ts) (hi : P.underlying ti = some (.int .i64)) (hs : P.underlying ts = some .string) (hb : P.underlying tb = some .bool)
    (hta : P.underlying ta = some (.slice te)) (hte : P.underlying te = some (.struct #[g0, g1])) (honea : oneCellFields P #[g0, g1] = true) (hCa : P.cellsOf te = 2) (hg0 : g0.type = ts) (hg1 : g1.type = ts)
    {cs : Array Value} {d : DataW H} {ps : List MemPlace} (h : DataW.Trod enc P w base (fun _ => true) held t (.agg cs) d ps) :
    ∃ (tk : Tk) (A : Option Addr) (c : Nat), cs = #[.int .i64 tk.kd, .string tk.nm, .slice A tk.al.length c, .bool tk.sf, .string tk.tx] ∧ RdA w A tk.al.length tk.al ∧ tk.ok := by
  obtain ⟨fuel, hf⟩ := h
  obtain ⟨tk, A, c, he, hr, hk⟩ := rd_tok ht hone hC h0 hi hs hb hta hte honea hCa hg0 hg1 hf
  refine ⟨tk, A, c, ?_, hr, hk⟩
  apply Array.toList_inj.1
  simpa [Value.cells] using he
end
end Go.Proofs.Ytjghkiphfpeocaa
