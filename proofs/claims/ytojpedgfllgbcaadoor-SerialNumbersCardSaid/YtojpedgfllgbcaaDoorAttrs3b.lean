/- Attributes in a block of their own. -/
import Derived.Test.YtojpedgfllgbcaaDoorAttrs2
namespace Go.Proofs.YtojpedgfllgbcaaDoor
open Go.RowKit

theorem var_at {w : World} {b : Nat} {x : At} (h : Blk w b 40 (enc_at x).toArray (0, 0)) : w.cell? ⟨b, 0, none⟩ = some (.string x.name) ∧ w.cell? ⟨b, 1, none⟩ = some (.string x.val) := ⟨h.cell 0, h.cell 1⟩
theorem grown_blk {w w1 : World} {g k a b : Nat} {t : TypeId} {cs : Array Value} {fr : Nat × Nat} (h : Blk w g t cs fr) (hg : w.grownBy w1 (Value.slice (some ⟨k, 0, none⟩) a b).ownBlock) (hne : g ≠ k) : Blk w1 g t cs fr :=
  (hg.block g h.lt (fun e => hne (by simpa [Value.ownBlock] using e))).trans h
/-- One attribute in a block of its own, to be read. -/
theorem rd_one_at {w : World} {b : Nat} {x : At} (h : Blk w b 40 (enc_at x).toArray (0, 0)) : Rd w (some ⟨b, 0, none⟩) 1 2 (enc_at x) :=
  ⟨rfl, (encOk_at x).2, fun _ => ⟨_, rfl, fun j u hu => by rw [add0, h.cell j, List.getElem?_toArray]; exact hu⟩⟩

theorem RdA.nil (w : World) : RdA w none 0 [] := RdA.nil' w
end Go.Proofs.YtojpedgfllgbcaaDoor
