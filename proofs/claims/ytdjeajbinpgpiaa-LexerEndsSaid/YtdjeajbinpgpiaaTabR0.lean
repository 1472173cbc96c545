/- A table as a slice literal, reckoned at once. No program in sight. -/
import Derived.Test.YtdjeajbinpgpiaaPl
import Derived.Test.YtdjeajbinpgpiaaChars
import Derived.Great.BuildSlice
namespace Go.Proofs.Ytdjeajbinpgpiaa
open Go.RowKit
def encR : ByteArray × ByteArray → List Value := fun p => [.string p.1, .string p.2]
def tabCells : Array Value := (tabT.flatMap encR).toArray
/-- A slice literal, its cells reckoned at once. -/
theorem wpList_buildAt {P : Program} {ops : Array Oper} {rest : List Oper} {o : Oper} {a : Act} {w : World} {Q : Exit → Act → World → Prop} (hg : o.guard = none) (t e : TypeId) (len : Nat) (parts : Array (Nat × Operand)) (ho : o.op = .buildSlice t len parts)
    (cells : Array Value) (k : Nat) (z : Value)
    (hu : P.underlying t = some (.slice e)) (hi : (P.info? e).map (fun i => (i.zero, i.size)) = some (some z, k)) (hsmall : ¬ len * k > 2 ^ 24) (hpos : ¬ len * k = 0)
    (hf : Instr.fill (fun i => some (i * k, k)) ((Array.range (len * k)).map (z.cells[· % z.cells.size]!)) (parts.map fun (i, x) => (i, a.eval x)).toList = some cells)
    (h : wpList P ops Q rest (a.put o.dst (.slice (some ⟨w.heap.size, 0, none⟩) len len)) (w.alloc (.cells cells e))) : wpList P ops Q (o :: rest) a w := by
  cases hie : P.info? e with
  | none => simp [hie] at hi
  | some ie =>
    simp only [hie, Option.map_some, Option.some.injEq, Prod.mk.injEq] at hi
    obtain ⟨hz, rfl⟩ := hi
    exact wpList_buildSlice hg t e len parts ho cells ie z hu hie hz hsmall hpos hf h
end Go.Proofs.Ytdjeajbinpgpiaa
