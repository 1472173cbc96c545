/- Scopes, as plain functions. -/
import Derived.Test.YtoehpladbdefkaaNames
namespace Go.Proofs.Ytoehpladbdefkaa
/-- From the top down: is one of the names found ahead of what bounds the scope? -/
def scanB (kind : Int) (names : List ByteArray) : List (Int × ByteArray) → Bool
  | [] => false
  | x :: r => if (x.1 == 1 && inB x.2 names) = true then true else if openB kind x.1 x.2 = true then false else scanB kind names r
def scopeB (l : List (Int × ByteArray)) (kind : Int) (names : List ByteArray) : Bool := if kind < 1 ∨ kind > 4 then false else scanB kind names l.reverse
section
variable {kind : Int} {names : List ByteArray} {x : Int × ByteArray} {r : List (Int × ByteArray)}
theorem scanB_hit (h : (x.1 == 1 && inB x.2 names) = true) : scanB kind names (x :: r) = true := by unfold scanB; rw [if_pos h]
theorem scanB_end (h : (x.1 == 1 && inB x.2 names) = false) (h2 : openB kind x.1 x.2 = true) : scanB kind names (x :: r) = false := by unfold scanB; rw [if_neg (by rw [h]; decide), if_pos h2]
theorem scanB_on (h : (x.1 == 1 && inB x.2 names) = false) (h2 : openB kind x.1 x.2 = false) : scanB kind names (x :: r) = scanB kind names r := by conv => lhs; unfold scanB; rw [if_neg (by rw [h]; decide), if_neg (by rw [h2]; decide)]
end
end Go.Proofs.Ytoehpladbdefkaa
