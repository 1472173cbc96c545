/- A region that draws its order, whose operations only read and whose callees make new memory alone: one walk of the text's order serves every order. -/
import Derived.Test.YtjghkiphfpeocaaMem
import Derived.Deep.QuietTactic
import Derived.BigQuiet
import Derived.WalkKit
namespace Go.Proofs.Ytjghkiphfpeocaa
open Go.RowKit

/-- A world in which all that was there is as it was. -/
structure After (w : World) : Type where
  W : World
  below : Below w.heap.size w W
instance (w : World) : Nonempty (After w) := ⟨⟨w, Below.refl _ _⟩⟩
theorem After.drew (w : World) : ∃ n : After w, w.drew = n.W := ⟨⟨w.drew, ⟨rfl, rfl, rfl, Nat.le_refl _, fun _ _ => rfl⟩⟩, rfl⟩

theorem wp_region_after {P : Program} {id : Nat} {Q : Exit → Act → World → Prop} {a : Act} {w : World} {l : List Oper} (hm : P.follows .mixedOrders = true) (hB : Region.lexB .any l.toArray = true)
    (h : wpQuiet P l.toArray (fun w' => ∃ n : After w, w' = n.W) (fun a' => ∀ w', (∃ n : After w, w' = n.W) → Q .normal a' w') l a) : (Code.region id l.toArray true).wp P Q a w :=
  wp_region_quiet (C := fun w' => ∃ n : After w, w' = n.W) hm hB (After.drew w) (by simpa using h)

theorem call_after {P : Program} {f : FuncId} {args : Array Value} {w : World} {n : After w} {v : Value} (h : Calls P f args n.W fun e w'' => e = .returned v ∧ Below n.W.heap.size n.W w'') :
    Calls P f args n.W fun e w'' => e = .returned v ∧ ∃ m : After w, w'' = m.W :=
  h.mono fun _ w'' ⟨he, hb⟩ => ⟨he, ⟨⟨w'', below_both n.below hb⟩, rfl⟩⟩
theorem call_same {P : Program} {f : FuncId} {args : Array Value} {w : World} {n : After w} {v : Value} (h : Calls P f args n.W fun e w'' => e = .returned v ∧ n.W = w'') :
    Calls P f args n.W fun e w'' => e = .returned v ∧ ∃ m : After w, w'' = m.W :=
  h.mono fun _ _ ⟨he, hb⟩ => ⟨he, ⟨n, hb.symm⟩⟩
end Go.Proofs.Ytjghkiphfpeocaa
