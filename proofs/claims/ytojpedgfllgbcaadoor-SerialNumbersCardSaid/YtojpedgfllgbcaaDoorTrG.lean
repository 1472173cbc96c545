/- How trees grow, as plain functions: a row of nodes, each under the last one that may hold it. No program in sight. -/
import Derived.Test.YtojpedgfllgbcaaDoorTrM
import Derived.Test.YtojpedgfllgbcaaDoorKeep
import Derived.Test.YtojpedgfllgbcaaDoorShort
namespace Go.Proofs.YtojpedgfllgbcaaDoor
open Go.RowKit

structure Nd where
  kind : Int
  n : Int
  up : Int
  svg : Bool
  text : ByteArray
  attrs : List At
  deriving DecidableEq
def contL : Lab := ⟨6, 0, ⟨#[]⟩, [], ⟨#[]⟩⟩
def kindK (x : Nd) : Nat := (withinI x.kind 0 1000).toNat % 5
def elemL (x : Nd) : Lab := ⟨3, if x.svg = true then 2 else 1, nameAt x.n, uniqA (shortA x.attrs), ⟨#[]⟩⟩
def elemK (x : Nd) : Fo := if x.svg = false ∧ (nameAt x.n).toList = templN.toList then .cons contL .nil .nil else .nil
/-- The node that a row's thing stands for; top: nothing is open. -/
def madeT (x : Nd) (top : Bool) : Lab × Fo :=
  if kindK x = 0 then (⟨5, 0, ⟨#[]⟩, [], headB x.text 9⟩, .nil)
  else if (kindK x = 1 ∨ kindK x = 2) ∧ (headB x.text 9).toList ≠ [] ∧ top = false then (⟨4, 0, ⟨#[]⟩, [], headB x.text 9⟩, .nil)
  else (elemL x, elemK x)
/-- A node x put at the end of the one to which a way leads; the way to it. -/
def underT : Fo → List Nat → Lab × Fo → Fo × List Nat
  | k, [], x =>
    if x.1.kind = 4 ∧ (k.toL.getLast?.map (fun y => y.1.kind)) = some 4 then (k, [])
    else (Fo.ofL (k.toL ++ [x]), if x.1.kind = 3 then [k.toL.length] else [])
  | k, i :: way, x => match k.toL[i]? with
    | some y => (Fo.ofL (k.toL.set i (y.1, (underT y.2 way x).1)), i :: (underT y.2 way x).2)
    | none => (k, [])
/-- Is a way one. -/
def wayOk : Fo → List Nat → Prop
  | _, [] => True
  | k, i :: way => ∃ y, k.toL[i]? = some y ∧ wayOk y.2 way
def growStep (s : Fo × List Nat) (x : Nd) : Fo × List Nat :=
  let way := s.2.take (s.2.length - (withinI x.up 0 s.2.length).toNat)
  underT s.1 way (madeT x (way.length == 0))
def growT (l : List Nd) : Fo := ((l.take 25).foldl growStep (.nil, [])).1
end Go.Proofs.YtojpedgfllgbcaaDoor
