/- How a tied row of this chapter is lifted: what the listed tables give, how the arguments lie, a world that meets the list. -/
import Derived.Test.YtpdbbpmkdkjppaaDoorFrame
import Derived.Test.YtpdbbpmkdkjppaaDoorTie
import Derived.Test.YtpdbbpmkdkjppaaDoorCards
import Derived.Test.YtpdbbpmkdkjppaaDoorUtfK
import Derived.PinnedBridge
import Derived.LaidMore
import Derived.Lay
import Derived.SevenTiedAt
import Derived.Stop.Joined
namespace Go.Proofs.YtpdbbpmkdkjppaaDoor
open Go.ChangeShapes Go.WideShapes Go.ChangeAt Go.RowKit Go.Lib Go.Deep

def laidU : List (String × DataW Unit) := [("unicode/utf8.acceptRanges", Rows.laid_unicode_utf8_acceptRanges), ("unicode/utf8.first", Rows.laid_unicode_utf8_first)]
theorem u8extra : U8Extra Tryd.prog Tryd.lays260_ren := {
  n3 := by kernel_rfl
  n4 := by kernel_rfl
  y3 := by kernel_rfl
  y4 := by kernel_rfl
  c5 := by kernel_rfl
  c119 := by kernel_rfl
  c138 := by kernel_rfl }
theorem accept_eq : (Rows.laid_unicode_utf8_acceptRanges : DataW Unit) = acceptData := by kernel_rfl
theorem lax_of {w : World} (h : w.ShapedOpen Tryd.prog) : ∃ m : Int, w.cell? ⟨2, 0, none⟩ = some (.int .i64 m) :=
  cell_of_shapedOpen_int (zero := #[.int .i64 0]) h (by decide) (by kernel_rfl) rfl (by kernel_rfl) (by kernel_rfl) Tryd.underlying3
/-- What the list and the world's shape give the walks. -/
theorem tabs_of {W : World} (h : laidMetH Tryd.prog laidU W) (hs : W.ShapedOpen Tryd.prog) : Tabs W := by
  rw [MakeChecks.laidMetH_plain _ _ _ (by kernel_rfl)] at h
  refine ⟨?_, lax_of hs⟩
  have h3 := laidMet.reads h (n := "unicode/utf8.first") (d := Rows.laid_unicode_utf8_first) (by unfold laidU; simp)
  have h4 := laidMet.reads h (n := "unicode/utf8.acceptRanges") (d := Rows.laid_unicode_utf8_acceptRanges) (by unfold laidU; simp)
  rw [accept_eq] at h4
  have e3 : Rows.laid_unicode_utf8_first = firstData := Pinned.utf8First_eq
  rw [e3] at h3
  exact utf8Tabs_of_reads Tryd.lays260 u8extra h3 h4

section
variable {H : Type} {enc : TypeId × Value → H} {P : Program} {w : World} {base : Nat} {held : Bool}
theorem rd_nums {α : Type} {en : α → List Value} {k : IntKind} {Q : α → Prop} (hE : EncOk en 1) (hk : ∀ z : Int, (Lit.int k z).wf = true → ∃ y, en y = [.int k z] ∧ Q y) {t e : TypeId} (ht : P.underlying t = some (.slice e)) (he : P.underlying e = some (.int k)) (hC : P.cellsOf e = 1)
    {A : Option Addr} {n c : Nat} (h : Told enc P w base held t (.slice A n c)) :
    ∃ l : List α, n = l.length ∧ Rd w A n 1 (l.flatMap en) ∧ (∀ x ∈ l, Q x) ∧ n ≤ c ∧ c ≤ maxLen := by
  obtain ⟨fuel, y, hfu⟩ := h
  rcases open_slice ht hfu with ⟨hcs, _⟩ | ⟨a, len, cap, m, k', D, Pl, hcs, _, hl, hm, hmm, _, hi⟩
  · simp at hcs
    obtain ⟨rfl, rfl, rfl⟩ := hcs
    exact ⟨[], rfl, ⟨by simp, by simp, fun h => absurd h (by omega)⟩, by simp, Nat.le_refl _, Nat.zero_le _⟩
  · simp at hcs
    obtain ⟨rfl, rfl, rfl⟩ := hcs
    have hmc : m = c := by simpa using hmm
    obtain ⟨l, hll, hp⟩ := listOf n (fun i (y : α) => Q y ∧ ∀ j u, (en y)[j]? = some u → w.cell? (a.add (i * 1 + j)) = some u) (fun i hin => by
      obtain ⟨cs', hcl, htr⟩ := hi i (by omega)
      rw [hC] at hcl
      obtain ⟨_, hlen, hat⟩ := World.cells?_some hcl
      match cs', hlen with
      | [v], _ =>
        obtain ⟨z, hz, _, hwf⟩ := DataW.trod_int he htr
        obtain rfl : v = .int k z := by simpa using hz
        obtain ⟨y, hy, hq⟩ := hk z hwf
        refine ⟨y, hq, fun j u hu => ?_⟩
        rw [hy] at hu
        have hj : j < 1 := (List.getElem?_eq_some_iff.1 hu).1
        rw [← Go.Deep.add_add, hat j (by omega)]
        exact hu)
    refine ⟨l, hll.symm, rd_of hE (by decide) hll.symm (fun i y hy => (hp i y hy).2), fun x hx => ?_, hl, hm⟩
    obtain ⟨i, hi2, he2⟩ := List.getElem_of_mem hx
    exact (hp i x (by rw [List.getElem?_eq_getElem hi2, he2])).1
theorem rd_bytes {t e : TypeId} (ht : P.underlying t = some (.slice e)) (he : P.underlying e = some (.int .u8)) (hC : P.cellsOf e = 1) {A : Option Addr} {n c : Nat} (h : Told enc P w base held t (.slice A n c)) :
    ∃ l : List UInt8, n = l.length ∧ RdB w A c l := by
  obtain ⟨l, h1, h2, _, h4, h5⟩ := rd_nums (Q := fun _ => True) encOk_b (fun z hz => by
    have hz' : 0 ≤ z ∧ z ≤ 255 := by simpa [Lit.wf, IntKind.min, IntKind.max, IntKind.signed, IntKind.bits] using hz
    refine ⟨UInt8.ofNat z.toNat, ?_, trivial⟩
    show [Value.int .u8 ((UInt8.ofNat z.toNat).toNat : Int)] = _
    rw [ofNat_nat (by omega)]
    congr 2
    omega) ht he hC h
  subst h1
  exact ⟨l, rfl, h2, h4, h5⟩
theorem rd_runes {t e : TypeId} (ht : P.underlying t = some (.slice e)) (he : P.underlying e = some (.int .i32)) (hC : P.cellsOf e = 1) {A : Option Addr} {n c : Nat} (h : Told enc P w base held t (.slice A n c)) :
    ∃ l : List Int, n = l.length ∧ RdR w A c l ∧ ∀ x ∈ l, -2147483648 ≤ x ∧ x ≤ 2147483647 := by
  obtain ⟨l, h1, h2, h3, h4, h5⟩ := rd_nums (Q := fun x : Int => -2147483648 ≤ x ∧ x ≤ 2147483647) encOk_r (fun z hz => by
    have hz' : -2147483648 ≤ z ∧ z ≤ 2147483647 := by simpa [Lit.wf, IntKind.min, IntKind.max, IntKind.signed, IntKind.bits] using hz
    exact ⟨z, rfl, hz'⟩) ht he hC h
  subst h1
  exact ⟨l, rfl, ⟨h2, h4, h5⟩, h3⟩
theorem wf_byte {z : Int} (hz : (Lit.int .u8 z).wf = true) : ∃ c : UInt8, z = (c.toNat : Int) := by
  have hz' : 0 ≤ z ∧ z ≤ 255 := by simpa [Lit.wf, IntKind.min, IntKind.max, IntKind.signed, IntKind.bits] using hz
  refine ⟨UInt8.ofNat z.toNat, ?_⟩
  rw [ofNat_nat (by omega)]
  omega
end

set_option maxRecDepth 100000 in
/-- From a walk to the row's own words. -/
theorem lift_law {H : Type} {enc : TypeId × Value → H} {os : Os} (started : os.Started) {f : FuncId} {fn : Func} {s : ChangeSpec} (noInit : Tryd.prog.inits.idxOf? f = none) (hfn : Tryd.prog.funcs[f]? = some fn)
    (witness : ∃ (w : World) (tape : Tape) (i : Input), w.os = os ∧ (w.forCall tape i).Shaped Tryd.checked.prog ∧ i.vars = [] ∧ Input.okWide Tryd.checked.prog (w.forCall tape i) .any w.heap.size f i ∧
      ((s.pre enc Tryd.checked.prog fn [] false (w.forCall tape i).memory i.args ∧ laidMetH Tryd.prog laidU (w.forCall tape i).memory) ∧ sizedMet enc Tryd.checked.prog fn (OpenSpec.ofChange s) false (w.forCall tape i).memory i.args) ∧ Assume.holds {} Tryd.checked.prog (lone (Frame.enter Tryd.checked.prog f i.args .normal) [] (w.forCall tape i)))
    (contract : ∀ (W : World) (base : Nat) (args : Array Value) (ds gs : List (DataW H)) (before : List MemPlace),
      (∀ (j : Nat) t v, fn.params[j]? = some t → args[j]? = some v → Value.okWide Tryd.prog W .any base t v) →
      DataW.Whole enc Tryd.prog fn.params.toList s.vars false W args.toList ds gs before → Tabs W →
      Calls Tryd.prog f args W fun e W' => ∃ v, e = .returned v ∧ s.post enc Tryd.prog fn false true false false W args v W') :
    ReturnsInHanded {} Tryd.checked os f .any (fun w args => (s.pre enc Tryd.prog fn [] false w args ∧ laidMetH Tryd.prog laidU w) ∧ sizedMet enc Tryd.prog fn (OpenSpec.ofChange s) false w args) (s.post enc Tryd.prog fn false true false false) := by
  refine returnsInHanded_of_calls (C := Tryd.checked) own_knob started noInit witness ?_
  intro w tape i _ hsh _ hok hpre _
  obtain ⟨_, _, _, g, hg, _, _, _, _, hval⟩ := hok
  obtain rfl : g = fn := Option.some.inj (hg.symm.trans hfn)
  obtain ⟨⟨⟨ds, gs, before, hw, _⟩, hx⟩, _⟩ := hpre
  refine (contract _ w.heap.size i.args ds gs before hval (DataW.Whole.of_heap (w' := w.forCall tape i) (by rfl) hw) (tabs_of (laidMetH.of_heap (by rfl) hx) hsh)).mono fun e W' ⟨v, he, hp⟩ => ?_
  subst he
  exact ChangeSpec.post_blind hp
/-- A world that meets the list. -/
theorem laid_here (os : Os) (args : Array Value) : laidMetH Tryd.prog laidU ((World.laidAll Tryd.prog os laidU).forCall (fun _ _ => 0) ⟨#[], args, []⟩).memory := by
  rw [MakeChecks.laidMetH_plain _ _ _ (by kernel_rfl)]
  exact laidMet_laidAll _ (by kernel_rfl) (by kernel_rfl)
end Go.Proofs.YtpdbbpmkdkjppaaDoor
