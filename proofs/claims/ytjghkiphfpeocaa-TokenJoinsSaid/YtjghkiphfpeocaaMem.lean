/- Words for memory: a block that is known whole, and what becomes of it. No program in sight. -/
import Derived.Below
import Derived.Laws.OwnMore
import Derived.Deep.Draws
import Derived.Laws.Rows
import Derived.Lib.ConvBytes
import Derived.Laws.IdiomStrings
namespace Go.Proofs.Ytjghkiphfpeocaa
open Go.RowKit

/-- Block g is just these cells. -/
def Blk (w : World) (g : Nat) (t : TypeId) (cs : Array Value) (fr : Nat × Nat) : Prop := w.heap[g]? = some (.cells cs t fr)
section
variable {w w' : World} {g : Nat} {t : TypeId} {cs : Array Value} {fr : Nat × Nat}
theorem Blk.lt (h : Blk w g t cs fr) : g < w.heap.size := by
  unfold Blk at h
  exact (Array.getElem?_eq_some_iff.1 h).1
theorem Blk.cell (h : Blk w g t cs fr) (i : Nat) : w.cell? ⟨g, i, none⟩ = cs[i]? := by
  unfold Blk at h
  simp [World.cell?, h]
theorem Blk.frozen (h : Blk w g t cs fr) (i : Nat) (hi : i < fr.1 ∨ fr.2 ≤ i) : w.frozen? ⟨g, i, none⟩ = false := by
  obtain ⟨lo, hi'⟩ := fr
  unfold Blk at h
  simp only [World.frozen?, h]
  simp at hi ⊢
  omega
theorem Blk.set (h : Blk w g t cs fr) (i : Nat) (u : Value) : Blk (w.setCell ⟨g, i, none⟩ u) g t (cs.setIfInBounds i u) fr := by
  unfold Blk at h ⊢
  simp [World.setCell, Array.getElem?_modify, h]
theorem Blk.far (h : Blk w g t cs fr) {p : Addr} (hp : g ≠ p.block) (u : Value) : Blk (w.setCell p u) g t cs fr := (Below.heap_setCell w p u g hp).trans h
theorem Blk.alloc (h : Blk w g t cs fr) (o : Obj) : Blk (w.alloc o) g t cs fr := (Below.heap_alloc w o g h.lt).trans h
theorem Blk.below {b : Nat} (h : Blk w g t cs fr) (hb : Below b w w') (hg : g < b) : Blk w' g t cs fr := (hb.block g hg).trans h
theorem Blk.keep (h : Blk w g t cs fr) (hb : Below w.heap.size w w') : Blk w' g t cs fr := h.below hb h.lt
theorem Blk.drewN (h : Blk w g t cs fr) (n : Nat) : Blk (w.drewN n) g t cs fr := h
end
theorem Blk.new (w : World) (t : TypeId) (cs : Array Value) (fr : Nat × Nat) : Blk (w.alloc (.cells cs t fr)) w.heap.size t cs fr := heap_alloc_new w _
theorem below_drewN {b : Nat} {a w : World} (h : Below b a w) (n : Nat) : Below b a (w.drewN n) := ⟨h.os, h.tape, h.output, h.size, h.block⟩
theorem below_then {b : Nat} {w w1 w2 : World} (h : Below b w w1) (hB : b ≤ w1.heap.size) (k : Below w1.heap.size w1 w2) : Below b w w2 := h.trans (k.mono hB)
theorem below_both {w w1 w2 : World} (h : Below w.heap.size w w1) (k : Below w1.heap.size w1 w2) : Below w.heap.size w w2 := below_then h h.size k
theorem cell_keep {w w1 : World} (h : Below w.heap.size w w1) {a : Addr} {v : Value} (hc : w.cell? a = some v) : w1.cell? a = some v := (h.cell (World.block_lt_of_cell? w a hc)).trans hc

theorem add0 (g j : Nat) : (⟨g, 0, none⟩ : Addr).add j = ⟨g, j, none⟩ := by unfold Addr.add; split <;> simp_all
/-- 'string(b)', b's cells being the bytes l. -/
theorem back_of_bytes {P : Program} (w : World) (src dst e : TypeId) (g cap n : Nat) (l : List UInt8) (hn : l.length = n) (hs : P.underlying src = some (.slice e)) (he : P.underlying e = some (.int .u8)) (hd : P.underlying dst = some .string)
    (hc : ∀ j (hj : j < l.length), w.cell? ⟨g, j, none⟩ = some (.int .u8 (l[j].toNat : Int))) :
    (convert src dst (.slice (some ⟨g, 0, none⟩) n cap)).run P w = .ok (.string ⟨l.toArray⟩) w := by
  subst hn
  exact run_convert_bytes_back w src dst e ⟨g, 0, none⟩ cap l hs he hd (fun j hj => by rw [add0]; exact hc j hj)

/-! ### the bytes of a text, laid in memory -/
theorem bytes_below (w : World) (e : TypeId) (s : ByteArray) : Below w.heap.size w (Lib.bytesWorld w e s) :=
  ⟨rfl, rfl, rfl, by rw [Lib.bytesWorld_size]; omega, fun i hi => Lib.bytesWorld_at_old w e s i hi⟩
theorem bytes_blk (w : World) (e : TypeId) (s : ByteArray) :
    ∃ C : Array Value, Blk (Lib.bytesWorld w e s) w.heap.size e C (C.size, C.size + 1) ∧ s.size ≤ C.size ∧ ∀ (i : Nat) (h : i < s.size), C[i]? = some (.int .u8 (s[i].toNat : Int)) := by
  refine ⟨_, Lib.bytesWorld_at_new w e s, ?_, fun i h => ?_⟩
  · simp [Lib.bytesCells]
  · have h' : i < s.data.size := h
    simp only [Lib.bytesCells]
    rw [Array.getElem?_append_left (by simpa using h')]
    simp only [Array.getElem?_map, Array.getElem?_eq_getElem h', Option.map_some]
    rfl
end Go.Proofs.Ytjghkiphfpeocaa
