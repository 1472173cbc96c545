/- What an attribute is, as a value and as cells; an argument that is a slice of attributes, or of asks of layer 19. No program in sight. -/
import Derived.Test.YtjghkiphfpeocaaArgRows
namespace Go.Proofs.Ytjghkiphfpeocaa
open Go.ChangeShapes Go.WideShapes Go.ChangeAt Go.RowKit Go.Deep

structure At where
  name : ByteArray
  val : ByteArray
  deriving DecidableEq
def enc_at : At → List Value := fun x => [.string x.name, .string x.val]
def val_at : At → Value := fun x => .agg #[.string x.name, .string x.val]
theorem encOk_at : EncOk enc_at 2 := fun x => ⟨rfl, fun u hu => List.all_eq_true.1 (show (enc_at x).all (fun u => u.oneCell') = true from rfl) u hu⟩
def At.ok (x : At) : Prop := x.name.size ≤ maxLen ∧ x.val.size ≤ maxLen
/-- A slice that reads as these attributes. -/
def RdA (w : World) (A : Option Addr) (n : Nat) (l : List At) : Prop := n = l.length ∧ Rd w A n 2 (l.flatMap enc_at)

section
variable {H : Type} {enc : TypeId × Value → H} {P : Program} {w : World} {base : Nat} {held : Bool}
theorem rd_attrs {t e ts : TypeId} {f0 f1 : Field} (ht : P.underlying t = some (.slice e)) (he : P.underlying e = some (.struct #[f0, f1])) (hone : oneCellFields P #[f0, f1] = true) (hC : P.cellsOf e = 2) (h0 : f0.type = ts) (h1 : f1.type = ts) (hs : P.underlying ts = some .string)
    {A : Option Addr} {n c : Nat} (h : Told enc P w base held t (.slice A n c)) :
    ∃ l : List At, RdA w A n l ∧ (∀ x ∈ l, x.ok) ∧ n ≤ c ∧ c ≤ maxLen := by
  obtain ⟨l, hn, hr, hq, hc⟩ := rd_rows (en := enc_at) (K := 2) (Q := At.ok) encOk_at (by decide) ht he hone hC rfl (fun vs hl hf => by
    match vs, hl with
    | [v0, v1], _ =>
      have g0 := hf 0 f0 v0 rfl rfl
      have g1 := hf 1 f1 v1 rfl rfl
      rw [h0] at g0
      rw [h1] at g1
      obtain ⟨s0, rfl, b0⟩ := told_string hs g0
      obtain ⟨s1, rfl, b1⟩ := told_string hs g1
      exact ⟨⟨s0, s1⟩, ⟨b0, b1⟩, rfl⟩) h
  exact ⟨l, ⟨hn, hr⟩, hq, hc⟩
end
end Go.Proofs.Ytjghkiphfpeocaa
