/- Lists of attributes: package attrs and its reference, as far as layers 18 and 19 use them: each with what it answers. -/
import Derived.Test.YtojpedgfllgbcaaDoorBase
import Derived.Test.YtojpedgfllgbcaaDoorProg
import Derived.Laws.StructEq
import Derived.WalkKit
import Derived.KernelRfl
import Derived.WalkLawsBesides
import Derived.WalkSpells
import Derived.Lib.SliceRun
namespace Go.Proofs.YtojpedgfllgbcaaDoor
open Go.RowKit

theorem info_at : (Tryd.prog.info? 40).map (fun i => (i.zero, i.size, i.bytes)) = some (some (.agg #[.string ⟨#[]⟩, .string ⟨#[]⟩] : Value), 2, 32) := by kernel_rfl

@[go_sem] theorem eq_at (a b c d : ByteArray) (w : World) : (Op.equalIn 10000 40 (.agg #[.string a, .string b]) (.agg #[.string c, .string d])).run Tryd.prog w = .ok ((a.toList == c.toList) && (b.toList == d.toList)) w := by
  have u3 := Tryd.underlying9
  have a3 := Tryd.isAgg9
  have z3 := Tryd.sizeOf9
  have hS : Tryd.prog.underlying 40 = some (.struct (Tryd.prog.fieldsOf 40)) := by kernel_rfl
  have hp : Tryd.prog.stoodInHeld 40 = false := by kernel_rfl
  rw [show (10000 : Nat) = 9999 + 1 from rfl, run_equalIn_agg w 9999 40 _ _ hS hp]
  simp only [Program.fieldsOf, Tryd.underlying40]
  go_simp
  by_cases h1 : a.toList = c.toList <;> by_cases h2 : b.toList = d.toList <;> simp [h1, h2]

theorem neq_at (a b c d : ByteArray) (w : World) : (binOp .neq 40 (.agg #[.string a, .string b]) (.agg #[.string c, .string d])).run Tryd.prog w = .ok (.bool (!((a.toList == c.toList) && (b.toList == d.toList)))) w := by
  rw [run_neq_struct, eq_at]; rfl

/-- The cells of an attribute that a slice holds. -/
theorem at_cells {w : World} {ad : Addr} {l : List At} {j : Nat} {x : At} (hc : ∀ j u, (l.flatMap enc_at)[j]? = some u → w.cell? (ad.add j) = some u) (hx : l[j]? = some x) :
    w.cell? (ad.add (j * 2)) = some (.string x.name) ∧ w.cell? { ad.add (j * 2) with off := (ad.add (j * 2)).off + 1, spot := none } = some (.string x.val) := by
  have k0 := hc (j * 2 + 0) _ (row_at encOk_at l j 0 x _ hx rfl)
  have k1 := hc (j * 2 + 1) _ (row_at encOk_at l j 1 x _ hx rfl)
  simp only [Nat.add_zero] at k0
  rw [← Go.Deep.add_add] at k1
  exact ⟨k0, (Addr.add_succ' (ad.add (j * 2)) 0) ▸ k1⟩
theorem rdA_at {w : World} {A : Option Addr} {l : List At} {n j : Nat} {x : At} (h : RdA w A n l) (hx : l[j]? = some x) :
    ∃ ad, A = some ad ∧ w.cell? (ad.add (j * 2)) = some (.string x.name) ∧ w.cell? { ad.add (j * 2) with off := (ad.add (j * 2)).off + 1, spot := none } = some (.string x.val) := by
  have hj := (List.getElem?_eq_some_iff.1 hx).1
  obtain ⟨ad, e, hc⟩ := h.2.2.2 (by rw [h.1]; omega)
  exact ⟨ad, e, at_cells hc hx⟩
theorem RdA.keep {w w' : World} {A : Option Addr} {n : Nat} {l : List At} (h : RdA w A n l) (hb : Below w.heap.size w w') : RdA w' A n l := ⟨h.1, h.2.keep hb⟩
theorem RdA.nil' (w : World) : RdA w none 0 [] := ⟨rfl, by simp, by simp, fun h => absurd h (by omega)⟩
/-- A row that was made, to be read. -/
theorem rdA_own {w : World} {base : Nat} {e : TypeId} {v : Value} {l : List At} (h : w.ownsRow base e 2 v l.length (l.flatMap enc_at)) : ∃ A c, v = .slice A l.length c ∧ RdA w A l.length l := by
  obtain ⟨A, c, hv, _, hr, _⟩ := own_rd h (row_one encOk_at l)
  exact ⟨A, c, hv, rfl, hr⟩
end Go.Proofs.YtojpedgfllgbcaaDoor
