/- Rows of texts: literals, and where they stand. (The beginning of Names, for seats without it.) -/
import Derived.Test.YtojpedgfllgbcaaDoorBase
import Derived.Test.YtojpedgfllgbcaaDoorProg
import Derived.WalkKit
import Derived.KernelRfl
import Derived.WalkLawsBesides
import Derived.WalkSpells
import Derived.Lib.Hide
namespace Go.Proofs.YtojpedgfllgbcaaDoor
open Go.RowKit

/-- Is a text among some? -/
def inB (s : ByteArray) (l : List ByteArray) : Bool := l.any (fun x => s.toList == x.toList)
def strs (l : List ByteArray) : List Value := l.map Value.string
theorem inB_take {s : ByteArray} {l : List ByteArray} {j : Nat} {x : ByteArray} (h : inB s (l.take j) = false) (hx : l[j]? = some x) : inB s (l.take (j + 1)) = (s.toList == x.toList) := by
  unfold inB at *
  rw [List.take_add_one, hx, List.any_append, h]
  simp
theorem inB_hit {s : ByteArray} {l : List ByteArray} {j : Nat} (h : inB s (l.take j) = true) : inB s l = true := by
  unfold inB at *
  obtain ⟨x, hx, he⟩ := List.any_eq_true.1 h
  exact List.any_eq_true.2 ⟨x, List.mem_of_mem_take hx, he⟩
theorem strs_at {w : World} {ad : Addr} {l : List ByteArray} {j : Nat} {x : ByteArray} (hc : ∀ j u, (strs l)[j]? = some u → w.cell? (ad.add j) = some u) (hx : l[j]? = some x) : w.cell? (ad.add j) = some (.string x) :=
  hc j _ (by unfold strs; rw [List.getElem?_map, hx]; rfl)
theorem rd_lit (w : World) (e : TypeId) (l : List ByteArray) : Rd (w.alloc (.cells (strs l).toArray e)) (some ⟨w.heap.size, 0, none⟩) l.length 1 (strs l) :=
  ⟨by simp [strs], fun u hu => by obtain ⟨x, _, rfl⟩ := List.mem_map.1 hu; rfl, fun _ => ⟨_, rfl, fun j u hu => by
    have hb1 : Blk (w.alloc (.cells (strs l).toArray e)) w.heap.size e (strs l).toArray (0, 0) := Blk.new w _ _ _
    rw [add0, hb1.cell j, List.getElem?_toArray]; exact hu⟩⟩

end Go.Proofs.YtojpedgfllgbcaaDoor
