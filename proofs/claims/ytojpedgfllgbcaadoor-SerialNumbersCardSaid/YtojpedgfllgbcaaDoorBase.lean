/- Mem, Str, Row, Own, Append, After, ArgRows, Attr, AttrL. -/
import Derived.Below
import Derived.Laws.OwnMore
import Derived.Deep.Draws
import Derived.Laws.Rows
import Derived.Lib.ConvBytes
import Derived.Laws.IdiomStrings
import Derived.Lib.IndexBytes
import Derived.Lib.Strings
import Derived.Laws.CopyRow
import Derived.Laws.CopyOwn
import Derived.Laws.AppendOwn
import Derived.Maps.AppendAt
import Derived.Lib.AppendZerosOnto
import Derived.Lib.Overlaps
import Derived.Lib.SlBuf
import Derived.StillTailTactics
import Derived.Lib.Hide
import Derived.Deep.RegionLaw
import Derived.Deep.RegionHeld3
import Derived.Deep.AppendLies
import Derived.Deep.DrawnRows
import Derived.Deep.QuietTactic
import Derived.BigQuiet
import Derived.WalkKit
import Derived.Deep.Slices
import Derived.Deep.Fields
import Derived.ChangeSame
import Derived.ChangeSlices
import Derived.ProofKit
/- Words for memory: a block that is known whole, and what becomes of it. No program in sight. -/
namespace Go.Proofs.YtojpedgfllgbcaaDoor
open Go.RowKit

/-- Block g is just these cells. -/
def Blk (w : World) (g : Nat) (t : TypeId) (cs : Array Value) (fr : Nat × Nat) : Prop := w.heap[g]? = some (.cells cs t fr)
section
variable {w w' : World} {g : Nat} {t : TypeId} {cs : Array Value} {fr : Nat × Nat}
theorem Blk.lt (h : Blk w g t cs fr) : g < w.heap.size := by
  unfold Blk at h
  exact (Array.getElem?_eq_some_iff.1 h).1
theorem Blk.cell (h : Blk w g t cs fr) (i : Nat) : w.cell? ⟨g, i, none⟩ = cs[i]? := by
  unfold Blk at h
  simp [World.cell?, h]
theorem Blk.frozen (h : Blk w g t cs fr) (i : Nat) (hi : i < fr.1 ∨ fr.2 ≤ i) : w.frozen? ⟨g, i, none⟩ = false := by
  obtain ⟨lo, hi'⟩ := fr
  unfold Blk at h
  simp only [World.frozen?, h]
  simp at hi ⊢
  omega
theorem Blk.set (h : Blk w g t cs fr) (i : Nat) (u : Value) : Blk (w.setCell ⟨g, i, none⟩ u) g t (cs.setIfInBounds i u) fr := by
  unfold Blk at h ⊢
  simp [World.setCell, Array.getElem?_modify, h]
theorem Blk.far (h : Blk w g t cs fr) {p : Addr} (hp : g ≠ p.block) (u : Value) : Blk (w.setCell p u) g t cs fr := (Below.heap_setCell w p u g hp).trans h
theorem Blk.alloc (h : Blk w g t cs fr) (o : Obj) : Blk (w.alloc o) g t cs fr := (Below.heap_alloc w o g h.lt).trans h
theorem Blk.below {b : Nat} (h : Blk w g t cs fr) (hb : Below b w w') (hg : g < b) : Blk w' g t cs fr := (hb.block g hg).trans h
theorem Blk.keep (h : Blk w g t cs fr) (hb : Below w.heap.size w w') : Blk w' g t cs fr := h.below hb h.lt
theorem Blk.drewN (h : Blk w g t cs fr) (n : Nat) : Blk (w.drewN n) g t cs fr := h
end
theorem Blk.new (w : World) (t : TypeId) (cs : Array Value) (fr : Nat × Nat) : Blk (w.alloc (.cells cs t fr)) w.heap.size t cs fr := heap_alloc_new w _
theorem below_drewN {b : Nat} {a w : World} (h : Below b a w) (n : Nat) : Below b a (w.drewN n) := ⟨h.os, h.tape, h.output, h.size, h.block⟩
theorem below_then {b : Nat} {w w1 w2 : World} (h : Below b w w1) (hB : b ≤ w1.heap.size) (k : Below w1.heap.size w1 w2) : Below b w w2 := h.trans (k.mono hB)
theorem below_both {w w1 w2 : World} (h : Below w.heap.size w w1) (k : Below w1.heap.size w1 w2) : Below w.heap.size w w2 := below_then h h.size k
theorem cell_keep {w w1 : World} (h : Below w.heap.size w w1) {a : Addr} {v : Value} (hc : w.cell? a = some v) : w1.cell? a = some v := (h.cell (World.block_lt_of_cell? w a hc)).trans hc

theorem add0 (g j : Nat) : (⟨g, 0, none⟩ : Addr).add j = ⟨g, j, none⟩ := by unfold Addr.add; split <;> simp_all
/-- 'string(b)', b's cells being the bytes l. -/
theorem back_of_bytes {P : Program} (w : World) (src dst e : TypeId) (g cap n : Nat) (l : List UInt8) (hn : l.length = n) (hs : P.underlying src = some (.slice e)) (he : P.underlying e = some (.int .u8)) (hd : P.underlying dst = some .string)
    (hc : ∀ j (hj : j < l.length), w.cell? ⟨g, j, none⟩ = some (.int .u8 (l[j].toNat : Int))) :
    (convert src dst (.slice (some ⟨g, 0, none⟩) n cap)).run P w = .ok (.string ⟨l.toArray⟩) w := by
  subst hn
  exact run_convert_bytes_back w src dst e ⟨g, 0, none⟩ cap l hs he hd (fun j hj => by rw [add0]; exact hc j hj)

/-! ### the bytes of a text, laid in memory -/
theorem bytes_below (w : World) (e : TypeId) (s : ByteArray) : Below w.heap.size w (Lib.bytesWorld w e s) :=
  ⟨rfl, rfl, rfl, by rw [Lib.bytesWorld_size]; omega, fun i hi => Lib.bytesWorld_at_old w e s i hi⟩
theorem bytes_blk (w : World) (e : TypeId) (s : ByteArray) :
    ∃ C : Array Value, Blk (Lib.bytesWorld w e s) w.heap.size e C (C.size, C.size + 1) ∧ s.size ≤ C.size ∧ ∀ (i : Nat) (h : i < s.size), C[i]? = some (.int .u8 (s[i].toNat : Int)) := by
  refine ⟨_, Lib.bytesWorld_at_new w e s, ?_, fun i h => ?_⟩
  · simp [Lib.bytesCells]
  · have h' : i < s.data.size := h
    simp only [Lib.bytesCells]
    rw [Array.getElem?_append_left (by simpa using h')]
    simp only [Array.getElem?_map, Array.getElem?_eq_getElem h', Option.map_some]
    rfl
end Go.Proofs.YtojpedgfllgbcaaDoor

/- Plain lists of bytes: the words in which the texts of this seat are told. No program in sight. -/
namespace Go.Proofs.YtojpedgfllgbcaaDoor
open Go.RowKit

/-- The bytes of a text, and back. -/
def B (s : ByteArray) : List UInt8 := s.data.toList
def S (l : List UInt8) : ByteArray := ⟨l.toArray⟩
@[simp] theorem B_S (l : List UInt8) : B (S l) = l := rfl
theorem S_B (s : ByteArray) : S (B s) = s := Lib.mk_data s
theorem size_B (s : ByteArray) : s.size = (B s).length := Lib.size_eq s
theorem size_S (l : List UInt8) : (S l).size = l.length := by rw [size_B]; rfl
theorem B_inj {s t : ByteArray} (h : B s = B t) : s = t := by rw [← S_B s, ← S_B t, h]
theorem B_drop (s : ByteArray) (a : Nat) : B (s.extract a s.size) = (B s).drop a := Lib.extract_to_end s a
theorem B_piece (s : ByteArray) (a b : Nat) : B (s.extract a b) = ((B s).drop a).take (b - a) := Lib.extract_data s a b
theorem size_extract_le (s : ByteArray) (a b : Nat) : (s.extract a b).size ≤ s.size := by
  rw [size_B, size_B, B_piece, List.length_take, List.length_drop]
  omega
theorem B_at (s : ByteArray) (i : Nat) (h : i < s.size) : (B s)[i]? = some s[i] := Lib.data_getElem? s i h
theorem B_get (s : ByteArray) (i : Nat) (h : i < s.size) (h' : i < (B s).length) : (B s)[i] = s[i] := by
  have := B_at s i h
  rw [List.getElem?_eq_getElem h'] at this
  exact Option.some.inj this
theorem drop_at (s : ByteArray) (i : Nat) (h : i < s.size) : (B s).drop i = s[i] :: (B s).drop (i + 1) := by
  have h' : i < (B s).length := by rw [← size_B]; exact h
  rw [List.drop_eq_getElem_cons h', B_get s i h h']
  rfl
theorem toList_B (s : ByteArray) : s.toList = B s := Lib.toList_data s

/-- A number clamped to 0 .. k. -/
def clampN (n : Int) (k : Nat) : Nat := (min (max n 0) (k : Int)).toNat
theorem clampN_le (n : Int) (k : Nat) : clampN n k ≤ k := by unfold clampN; omega
theorem clampN_nat (n k : Nat) (h : n ≤ k) : clampN (n : Int) k = n := by unfold clampN; omega

/-- The first place from i on at which p does not hold; the length, if there is none. -/
def stopL (p : UInt8 → Bool) (l : List UInt8) (i : Nat) : Nat := i + ((l.drop i).takeWhile p).length
theorem stopL_ge (p : UInt8 → Bool) (l : List UInt8) (i : Nat) : i ≤ stopL p l i := Nat.le_add_right _ _
theorem stopL_le (p : UInt8 → Bool) (l : List UInt8) (i : Nat) (h : i ≤ l.length) : stopL p l i ≤ l.length := by
  unfold stopL
  have : ((l.drop i).takeWhile p).length ≤ (l.drop i).length := (List.takeWhile_prefix p).length_le
  rw [List.length_drop] at this
  omega
theorem stopL_end (p : UInt8 → Bool) (l : List UInt8) (i : Nat) (h : l.length ≤ i) : stopL p l i = i := by
  unfold stopL
  rw [List.drop_eq_nil_of_le h]
  simp
theorem stopL_step (p : UInt8 → Bool) (l : List UInt8) (i : Nat) (h : i < l.length) (hp : p l[i] = true) : stopL p l (i + 1) = stopL p l i := by
  unfold stopL
  rw [List.drop_eq_getElem_cons h, List.takeWhile_cons, if_pos hp]
  simp
  omega
theorem stopL_stop (p : UInt8 → Bool) (l : List UInt8) (i : Nat) (h : i < l.length) (hp : p l[i] = false) : stopL p l i = i := by
  unfold stopL
  rw [List.drop_eq_getElem_cons h, List.takeWhile_cons, if_neg (by simp [hp])]
  simp
/-- Induction on what is left. -/
theorem stopL_spec (p : UInt8 → Bool) (l : List UInt8) : ∀ (d i : Nat), l.length - i = d → i ≤ l.length →
    (∀ j, i ≤ j → (h : j < stopL p l i) → ∃ h' : j < l.length, p l[j] = true) ∧ (∀ h : stopL p l i < l.length, p l[stopL p l i] = false)
  | 0, i, hd, hi => by
    have he : i = l.length := by omega
    subst he
    rw [stopL_end p l _ (Nat.le_refl _)]
    exact ⟨fun j h1 h2 => absurd h2 (by omega), fun h => absurd h (by omega)⟩
  | d + 1, i, hd, hi => by
    have hlt : i < l.length := by omega
    cases hp : p l[i] with
    | true =>
      have ih := stopL_spec p l d (i + 1) (by omega) (by omega)
      rw [stopL_step p l i hlt hp] at ih
      refine ⟨fun j h1 h2 => ?_, ih.2⟩
      by_cases e : j = i
      · subst e; exact ⟨hlt, hp⟩
      · exact ih.1 j (by omega) h2
    | false =>
      simp only [stopL_stop p l i hlt hp]
      exact ⟨fun j h1 h2 => absurd h2 (by omega), fun _ => hp⟩
theorem stopL_mem (p : UInt8 → Bool) (l : List UInt8) (i j : Nat) (hi : i ≤ l.length) (h1 : i ≤ j) (h2 : j < stopL p l i) (h' : j < l.length) : p l[j] = true := by
  obtain ⟨_, h⟩ := (stopL_spec p l _ i rfl hi).1 j h1 h2
  exact h
theorem stopL_at (p : UInt8 → Bool) (l : List UInt8) (i : Nat) (hi : i ≤ l.length) (h : stopL p l i < l.length) : p l[stopL p l i] = false := (stopL_spec p l _ i rfl hi).2 h
theorem stopL_idem (p : UInt8 → Bool) (l : List UInt8) (i : Nat) (hi : i ≤ l.length) : stopL p l (stopL p l i) = stopL p l i := by
  rcases Nat.lt_or_ge (stopL p l i) l.length with h | h
  · exact stopL_stop p l _ h (stopL_at p l i hi h)
  · exact stopL_end p l _ h

theorem stopB_step (p : UInt8 → Bool) (s : ByteArray) (i : Nat) (h : i < s.size) (hp : p s[i] = true) : stopL p (B s) (i + 1) = stopL p (B s) i := by
  have h' : i < (B s).length := by rw [← size_B]; exact h
  exact stopL_step p (B s) i h' (by rw [B_get s i h h']; exact hp)
theorem stopB_stop (p : UInt8 → Bool) (s : ByteArray) (i : Nat) (h : i < s.size) (hp : p s[i] = false) : stopL p (B s) i = i := by
  have h' : i < (B s).length := by rw [← size_B]; exact h
  exact stopL_stop p (B s) i h' (by rw [B_get s i h h']; exact hp)
theorem stopB_end (p : UInt8 → Bool) (s : ByteArray) (i : Nat) (h : ¬ i < s.size) : stopL p (B s) i = i := stopL_end p _ _ (by rw [← size_B]; omega)

/-- The first place from i on at which sub stands; the length, if there is none. -/
def findL (l sub : List UInt8) (i : Nat) : Nat := if Lib.index (l.drop i) sub < 0 then l.length else i + (Lib.index (l.drop i) sub).toNat
theorem findL_ge (l sub : List UInt8) (i : Nat) (h : i ≤ l.length) : i ≤ findL l sub i := by unfold findL; split <;> omega
theorem findL_le (l sub : List UInt8) (i : Nat) (h : i ≤ l.length) : findL l sub i ≤ l.length := by
  unfold findL
  have := Lib.index_le (l.drop i) sub
  rw [List.length_drop] at this
  split <;> omega
theorem occ_drop (l sub : List UInt8) (i j : Nat) : Lib.occAt (l.drop i) sub j = Lib.occAt l sub (i + j) := by
  unfold Lib.occAt
  rw [List.drop_drop]
/-- What a search from i on comes to. -/
theorem findL_first (l sub : List UInt8) (i k : Nat) (h1 : i ≤ k) (h2 : k ≤ l.length) (ho : Lib.occAt l sub k = true) (hn : ∀ j, i ≤ j → j < k → Lib.occAt l sub j = false) : findL l sub i = k := by
  have hx : Lib.index (l.drop i) sub = ((k - i : Nat) : Int) :=
    Lib.index_first (by rw [List.length_drop]; omega) (by rw [occ_drop, show i + (k - i) = k by omega]; exact ho) (fun j hj => by rw [occ_drop]; exact hn _ (by omega) (by omega))
  unfold findL
  rw [hx, if_neg (by omega)]
  omega
theorem findL_none (l sub : List UInt8) (i : Nat) (hi : i ≤ l.length) (hn : ∀ j, i ≤ j → j ≤ l.length → Lib.occAt l sub j = false) : findL l sub i = l.length := by
  have hx : Lib.index (l.drop i) sub = -1 := Lib.index_none (fun j hj => by
    rw [occ_drop]
    rw [List.length_drop] at hj
    exact hn _ (by omega) (by omega))
  unfold findL
  rw [hx, if_pos (by omega)]
/-- The least place, or none. -/
theorem occ_cases (l sub : List UInt8) : ∀ (d i : Nat), l.length + 1 - i = d → i ≤ l.length + 1 →
    (∃ k, i ≤ k ∧ k ≤ l.length ∧ Lib.occAt l sub k = true ∧ ∀ j, i ≤ j → j < k → Lib.occAt l sub j = false) ∨ (∀ j, i ≤ j → j ≤ l.length → Lib.occAt l sub j = false)
  | 0, i, hd, hi => .inr fun j h1 h2 => absurd h2 (by omega)
  | d + 1, i, hd, hi => by
    cases ho : Lib.occAt l sub i with
    | true => exact .inl ⟨i, Nat.le_refl _, by omega, ho, fun j h1 h2 => absurd h2 (by omega)⟩
    | false =>
      rcases occ_cases l sub d (i + 1) (by omega) (by omega) with ⟨k, h1, h2, h3, h4⟩ | h
      · refine .inl ⟨k, by omega, h2, h3, fun j hj hk => ?_⟩
        by_cases e : j = i
        · subst e; exact ho
        · exact h4 j (by omega) hk
      · refine .inr fun j hj hk => ?_
        by_cases e : j = i
        · subst e; exact ho
        · exact h j (by omega) hk
theorem findL_cases (l sub : List UInt8) (i : Nat) (hi : i ≤ l.length) :
    (Lib.occAt l sub (findL l sub i) = true ∨ findL l sub i = l.length) ∧ ∀ j, i ≤ j → j < findL l sub i → Lib.occAt l sub j = false := by
  rcases occ_cases l sub _ i rfl (by omega) with ⟨k, h1, h2, h3, h4⟩ | h
  · rw [findL_first l sub i k h1 h2 h3 h4]
    exact ⟨.inl h3, h4⟩
  · rw [findL_none l sub i hi h]
    exact ⟨.inr rfl, fun j h1 h2 => h j h1 (by omega)⟩

/-- A number brought into lo .. hi. -/
def withinI (n lo hi : Int) : Int := if n.tmod (hi - lo + 1) < 0 then lo + (n.tmod (hi - lo + 1) + hi - lo + 1) else lo + n.tmod (hi - lo + 1)
theorem withinI_bd (n lo hi : Int) (h : lo ≤ hi) : lo ≤ withinI n lo hi ∧ withinI n lo hi ≤ hi := by
  have h1 := Int.tmod_lt_of_pos n (show 0 < hi - lo + 1 by omega)
  have h2 := Int.lt_tmod_of_pos n (show 0 < hi - lo + 1 by omega)
  unfold withinI
  split <;> omega
/-- A text cut at n. -/
def headB (s : ByteArray) (n : Nat) : ByteArray := if n < s.size then s.extract 0 n else s
theorem headB_le (s : ByteArray) (n : Nat) : (headB s n).size ≤ n := by
  unfold headB
  split
  · rw [size_B, B_piece, List.length_take, List.length_drop]
    omega
  · omega
/-- Capitals as small letters. -/
def lowB (c : UInt8) : UInt8 := if 65 ≤ c.toNat ∧ c.toNat ≤ 90 then c + 32 else c
theorem lowB_toNat (c : UInt8) : (lowB c).toNat = if 65 ≤ c.toNat ∧ c.toNat ≤ 90 then c.toNat + 32 else c.toNat := by
  unfold lowB
  split
  · rw [UInt8.toNat_add]
    have : (32 : UInt8).toNat = 32 := rfl
    omega
  · rfl
def lowL (l : List UInt8) : List UInt8 := l.map lowB
theorem lowL_length (l : List UInt8) : (lowL l).length = l.length := by simp [lowL]
/-- Space; what ends a name. -/
def spaceB (c : UInt8) : Bool := c == 9 || c == 10 || c == 12 || c == 13 || c == 32
/-- Is a byte among these. -/
def hasB (l : List UInt8) (c : UInt8) : Bool := l.any fun b => b == c
theorem hasB_iff (l : List UInt8) (c : UInt8) : hasB l c = true ↔ c ∈ l := by simp [hasB]
theorem hasB_contains (l : List UInt8) (c : UInt8) : hasB l c = l.contains c := by rw [Bool.eq_iff_iff, hasB_iff]; simp
theorem indexByte_neg (l : List UInt8) (c : UInt8) : Lib.indexByte l c < 0 ↔ (!hasB l c) = true := by
  rw [hasB_contains]
  have hge := Lib.indexByte_ge l c
  constructor
  · intro h
    have hn := Lib.indexByte_none (l := l) (c := c) (by omega)
    simp only [Bool.not_eq_true', List.contains_eq_mem, decide_eq_false_iff_not]
    intro hm
    obtain ⟨k, hk, he⟩ := List.mem_iff_getElem.1 hm
    exact hn k (by rw [List.getElem?_eq_getElem hk, he])
  · intro h
    rcases Int.lt_or_le (Lib.indexByte l c) 0 with h1 | h1
    · exact h1
    · obtain ⟨o, ho⟩ : ∃ o : Nat, Lib.indexByte l c = o := ⟨(Lib.indexByte l c).toNat, by omega⟩
      have hs := (Lib.indexByte_some ho).1
      simp only [Bool.not_eq_true', List.contains_eq_mem, decide_eq_false_iff_not] at h
      exact absurd (List.mem_of_getElem? hs) h
def skipL (l : List UInt8) (i : Nat) : Nat := stopL spaceB l i
def untilL (l set : List UInt8) (i : Nat) : Nat := stopL (fun c => !hasB set c) l i
def nameL (l : List UInt8) (i : Nat) : Nat := untilL l [9, 10, 12, 13, 32, 47, 62] i
/-- Does a text stand at a place; so, folded. -/
def startsL (l sub : List UInt8) (i : Nat) : Bool := Lib.occAt l sub i
def foldL (l sub : List UInt8) (i : Nat) : Bool := Lib.occAt (lowL l) (lowL sub) i
theorem startsL_occ (l sub : List UInt8) (i : Nat) : startsL l sub i = Lib.occAt l sub i := rfl
/-- A piece stands where it was cut. -/
theorem occ_piece (l : List UInt8) (i j : Nat) : Lib.occAt l ((l.drop i).take (j - i)) i = true := by
  unfold Lib.occAt
  rw [List.isPrefixOf_iff_prefix]
  exact List.take_prefix _ _
theorem lowL_drop (l : List UInt8) (i : Nat) : (lowL l).drop i = lowL (l.drop i) := by simp [lowL]
theorem fold_of_low (l sub sub' : List UInt8) (i : Nat) (h : lowL sub = lowL sub') : foldL l sub i = foldL l sub' i := by unfold foldL; rw [h]
theorem fold_piece (l : List UInt8) (i j : Nat) : foldL l ((l.drop i).take (j - i)) i = true := by
  unfold foldL Lib.occAt
  rw [List.isPrefixOf_iff_prefix, lowL_drop]
  unfold lowL
  rw [List.map_take]
  exact List.take_prefix _ _
/-- Small letters as capitals. -/
def upB (c : UInt8) : UInt8 := if 97 ≤ c.toNat ∧ c.toNat ≤ 122 then c - 32 else c
theorem upB_toNat (c : UInt8) : (upB c).toNat = if 97 ≤ c.toNat ∧ c.toNat ≤ 122 then c.toNat - 32 else c.toNat := by
  unfold upB
  split
  · rw [UInt8.toNat_sub_of_le]
    · rfl
    · rw [UInt8.le_iff_toNat_le]
      have : (32 : UInt8).toNat = 32 := rfl
      omega
  · rfl
def upL (l : List UInt8) : List UInt8 := l.map upB
theorem lowB_upB (c : UInt8) : lowB (upB c) = lowB c := by
  have h1 := lowB_toNat (upB c)
  have h2 := lowB_toNat c
  have h3 := upB_toNat c
  apply UInt8.toNat_inj.1
  rw [h1, h2, h3]
  repeat' split
  all_goals omega
theorem low_up (l : List UInt8) : lowL (upL l) = lowL l := by
  unfold lowL upL
  rw [List.map_map]
  congr 1
  funext c
  exact lowB_upB c
theorem upL_length (l : List UInt8) : (upL l).length = l.length := by simp [upL]
/-- Texts of the length of a piece stand where it was cut just if they are it. -/
theorem occ_eq (l sub : List UInt8) (i j : Nat) (hl : sub.length = ((l.drop i).take (j - i)).length) : startsL l sub i = (sub == (l.drop i).take (j - i)) := by
  rw [startsL_occ]
  unfold Lib.occAt
  rw [Bool.eq_iff_iff, List.isPrefixOf_iff_prefix, beq_iff_eq]
  constructor
  · intro h
    rw [List.prefix_iff_eq_take] at h
    have hp : (l.drop i).take (j - i) <+: l.drop i := List.take_prefix _ _
    rw [List.prefix_iff_eq_take] at hp
    rw [h, hp, hl]
  · rintro rfl
    exact List.take_prefix _ _
end Go.Proofs.YtojpedgfllgbcaaDoor

/- Rows of elements of k cells: what copy, append, clear and slices do to a block that is known whole. No program in sight. -/
namespace Go.Proofs.YtojpedgfllgbcaaDoor
open Go.RowKit

/-! ### lists -/
theorem take_left {α : Type} (a b : List α) (n : Nat) (h : a.length = n) : (a ++ b).take n = a := by subst h; simp
theorem drop_left {α : Type} (a b : List α) (n : Nat) (h : a.length = n) : (a ++ b).drop n = b := by subst h; simp

/-- A block written anew. -/
theorem Blk.setRow {w : World} {g : Nat} {t : TypeId} {cs : Array Value} {fr : Nat × Nat} (h : Blk w g t cs fr) (ds : Array Value) : Blk (w.setRow g ds) g t ds fr := setRow_heap w g cs ds t fr h
theorem Blk.setRow_far {w : World} {g g' : Nat} {t : TypeId} {cs : Array Value} {fr : Nat × Nat} (h : Blk w g t cs fr) (hne : g ≠ g') (ds : Array Value) : Blk (w.setRow g' ds) g t cs fr := by
  unfold Blk at *
  rw [setRow_other w g' g ds hne]
  exact h
theorem grownBy_setRow (w : World) (g : Nat) (ds : Array Value) : w.grownBy (w.setRow g ds) (some g) :=
  ⟨rfl, rfl, rfl, by simp, fun k _ hne => setRow_other w g k ds (fun e => hne (by rw [e]))⟩

/-- copy, elements of k cells: all is read before anything is written. -/
theorem run_copy_k {P : Program} (w : World) (dT sT ty e : TypeId) (k g o dLen dCap : Nat) (a : Addr) (sLen sCap : Nat) (cur : Array Value) (t : TypeId) (cs : List Value)
    (hu : P.underlying dT = some (.slice e)) (hs : (P.info? e).map (·.size) = some k)
    (hg : Blk w g t cur (0, 0)) (hn : cs.length = Nat.min sLen dLen * k)
    (hsrc : ∀ j v, cs[j]? = some v → w.cell? (a.add j) = some v) (hfit : o + cs.length ≤ cur.size) (h1 : ∀ v ∈ cs, v.oneCell' = true) :
    (Builtin.copy_ #[dT, sT] ty #[.slice (some ⟨g, o, none⟩) dLen dCap, .slice (some a) sLen sCap]).run P w =
      .ok (goInt (Nat.min sLen dLen)) (w.setRow g (cur.toList.take o ++ cs ++ cur.toList.drop (o + cs.length)).toArray) := by
  have hl := run_loadCells_list (P := P) w a cs hsrc
  have hst := run_storeCells_at P g o t cs 0 cur w hg (by simpa using hfit) h1
  cases hq : P.info? e with
  | none => simp [hq] at hs
  | some i =>
    have hi : i.size = k := by simpa [hq] using hs
    rw [hn] at hl
    simp only [Nat.add_zero] at hst
    simp [Builtin.copy_, run_underlying hu, Builtin.lenOf, Builtin.firstCells, sizeOf, typeInfo, hq, hi, hl, hst]

theorem run_copy_parts {P : Program} (w : World) (dT sT ty e : TypeId) (k g o dLen dCap : Nat) (a : Addr) (sLen sCap q : Nat) (A R : List Value) (t : TypeId) (cs : List Value)
    (hu : P.underlying dT = some (.slice e)) (hs : (P.info? e).map (·.size) = some k)
    (hg : Blk w g t (A ++ R).toArray (0, 0)) (hA : A.length = o) (hq : q = Nat.min sLen dLen) (hn : cs.length = q * k)
    (hsrc : ∀ j v, cs[j]? = some v → w.cell? (a.add j) = some v) (hfit : cs.length ≤ R.length) (h1 : ∀ v ∈ cs, v.oneCell' = true) :
    (Builtin.copy_ #[dT, sT] ty #[.slice (some ⟨g, o, none⟩) dLen dCap, .slice (some a) sLen sCap]).run P w =
      .ok (goInt q) (w.setRow g (A ++ cs ++ R.drop cs.length).toArray) := by
  subst hq
  have h := run_copy_k (P := P) w dT sT ty e k g o dLen dCap a sLen sCap (A ++ R).toArray t cs hu hs hg hn hsrc (by simp; omega) h1
  rw [h]
  have e1 : (A ++ R).take o = A := take_left _ _ _ hA
  have e2 : (A ++ R).drop (o + cs.length) = R.drop cs.length := by rw [← List.drop_drop, drop_left _ _ _ hA]
  simp only [e1, e2]

/-- append in place: there is room. -/
theorem run_append_room_k {P : Program} (w : World) (t ty e : TypeId) (k g n cap : Nat) (a : Option Addr) (m c : Nat) (cur : Array Value) (et : TypeId) (cs : List Value)
    (hu : P.underlying t = some (.slice e)) (hs : (P.info? e).map (·.size) = some k)
    (hg : Blk w g et cur (0, 0)) (hn : cs.length = m * k) (hroom : n + m ≤ cap)
    (hsrc : 0 < cs.length → ∃ ad, a = some ad ∧ ∀ j v, cs[j]? = some v → w.cell? (ad.add j) = some v) (hm : a = none → m = 0)
    (hfit : n * k + cs.length ≤ cur.size) (h1 : ∀ v ∈ cs, v.oneCell' = true) :
    (Builtin.append_ #[t, t] ty #[.slice (some ⟨g, 0, none⟩) n cap, .slice a m c]).run P w =
      .ok (.slice (some ⟨g, 0, none⟩) (n + m) cap) (w.setRow g (cur.toList.take (n * k) ++ cs ++ cur.toList.drop (n * k + cs.length)).toArray) := by
  have hst := run_storeCells_at P g (n * k) et cs 0 cur w hg (by simpa using hfit) h1
  simp only [Nat.add_zero] at hst
  have hadd : (⟨g, 0, none⟩ : Addr).add (n * k) = ⟨g, n * k, none⟩ := add0 g (n * k)
  cases hq : P.info? e with
  | none => simp [hq] at hs
  | some i =>
    have hi : i.size = k := by simpa [hq] using hs
    cases a with
    | none =>
      obtain rfl := hm rfl
      have hc0 : cs = [] := List.eq_nil_of_length_eq_zero (by omega)
      subst hc0
      simp only [List.append_nil, List.length_nil, Nat.add_zero] at hst
      have hroom' : n ≤ cap := hroom
      simp [Builtin.append_, run_underlying hu, Builtin.lenOf, Builtin.firstCells, sizeOf, typeInfo, hq, hi, hroom', hadd, hst]
    | some ad =>
      have hl : (loadCells ad (m * k)).run P w = .ok cs.toArray w := by
        have hl := run_loadCells_list (P := P) w ad cs (fun j v hj => by
          obtain ⟨ad', e, h⟩ := hsrc (by
            have := (List.getElem?_eq_some_iff.1 hj).1
            omega)
          cases e
          exact h j v hj)
        rwa [hn] at hl
      simp [Builtin.append_, run_underlying hu, Builtin.lenOf, Builtin.firstCells, sizeOf, typeInfo, hq, hi, hroom, hl, hadd, hst]

/-- clear of n elements from one on. -/
theorem run_clear_k {P : Program} (w : World) (t ty e : TypeId) (k g o n cap : Nat) (z : Value) (cur : Array Value) (et : TypeId)
    (hu : P.underlying t = some (.slice e)) (hz : ∀ w, (zeroValue e).run P w = .ok z w) (hzk : z.cells.size = k) (h1 : ∀ v ∈ z.cells, v.oneCell' = true)
    (hg : Blk w g et cur (0, 0)) (hn : 0 < n) (hfit : o + n * k ≤ cur.size) :
    ∃ zs : List Value, zs.length = n * k ∧ (∀ v ∈ zs, v.oneCell' = true) ∧ (Builtin.clear_ #[t] ty #[.slice (some ⟨g, o, none⟩) n cap]).run P w =
      .ok (.tuple #[]) (w.setRow g (cur.toList.take o ++ zs ++ cur.toList.drop (o + zs.length)).toArray) := by
  have hl : (Builtin.zeroCells z.cells n).toList.length = n * k := by rw [Array.length_toList, size_zeroCells, hzk]
  have h1' : ∀ v ∈ (Builtin.zeroCells z.cells n).toList, v.oneCell' = true := by
    intro v hv
    simp only [Builtin.zeroCells, Array.toList_map, List.mem_map] at hv
    obtain ⟨i, hi, rfl⟩ := hv
    have hi' : i < n * z.cells.size := by simpa using hi
    have hpos : 0 < z.cells.size := by
      rcases Nat.eq_zero_or_pos z.cells.size with h | h
      · rw [h] at hi'; simp at hi'
      · exact h
    have hlt : i % z.cells.size < z.cells.size := Nat.mod_lt _ hpos
    rw [getElem!_pos z.cells _ hlt]
    exact h1 _ (Array.getElem_mem hlt)
  have hst := run_storeCells_at P g o et (Builtin.zeroCells z.cells n).toList 0 cur w hg (by rw [hl]; simpa using hfit) h1'
  simp only [Nat.add_zero] at hst
  refine ⟨(Builtin.zeroCells z.cells n).toList, hl, h1', ?_⟩
  obtain ⟨m, rfl⟩ : ∃ m, n = m + 1 := ⟨n - 1, by omega⟩
  simp [Builtin.clear_, run_underlying hu, hz, hst]

/-! ### an owned row, taken apart and put together -/
theorem own_of_blk {w : World} {base g : Nat} {e : TypeId} {k n cap : Nat} {xs rest : List Value} (hb : base ≤ g) (hg : Blk w g e (xs ++ rest).toArray (0, 0)) (hl : xs.length = n * k) (hn : n ≤ cap) (hc : cap ≤ maxLen) (hr : rest.length = (cap - n) * k) :
    w.ownsRow base e k (.slice (some ⟨g, 0, none⟩) n cap) n xs := by
  refine ⟨hl, .inr ⟨g, cap, (xs ++ rest).toArray, rfl, hb, hg, hn, hc, ?_, ?_⟩⟩
  · simp only [List.size_toArray, List.length_append, hl, hr]
    rw [← Nat.add_mul]
    congr 1
    omega
  · simp only
    exact take_left _ _ _ hl
theorem own_parts {w : World} {base : Nat} {e : TypeId} {k n : Nat} {v : Value} {xs : List Value} (h : w.ownsRow base e k v n xs) (hn : 0 < n) :
    ∃ g cap rest, v = .slice (some ⟨g, 0, none⟩) n cap ∧ base ≤ g ∧ Blk w g e (xs ++ rest).toArray (0, 0) ∧ n ≤ cap ∧ cap ≤ maxLen ∧ rest.length = (cap - n) * k := by
  obtain ⟨hl, h⟩ := h
  rcases h with ⟨_, h0⟩ | ⟨g, cap, cur, hv, hb, hg, hnc, hc, hs, ht⟩
  · omega
  · refine ⟨g, cap, cur.toList.drop (n * k), hv, hb, ?_, hnc, hc, ?_⟩
    · rw [← ht, List.take_append_drop, Array.toArray_toList]
      exact hg
    · rw [List.length_drop, Array.length_toList, hs, Nat.sub_mul]

/-- A slice that reads as these cells, nil let in. -/
def Rd (w : World) (A : Option Addr) (n k : Nat) (xs : List Value) : Prop :=
  xs.length = n * k ∧ (∀ u ∈ xs, u.oneCell' = true) ∧ (0 < n → ∃ ad, A = some ad ∧ ∀ j u, xs[j]? = some u → w.cell? (ad.add j) = some u)
theorem Rd.keep {w w' : World} {A : Option Addr} {n k : Nat} {xs : List Value} (h : Rd w A n k xs) (hb : Below w.heap.size w w') : Rd w' A n k xs :=
  ⟨h.1, h.2.1, fun hn => let ⟨ad, e, hc⟩ := h.2.2 hn; ⟨ad, e, fun j u hu => cell_keep hb (hc j u hu)⟩⟩
theorem own_rd {w : World} {base : Nat} {e : TypeId} {k n : Nat} {v : Value} {xs : List Value} (h : w.ownsRow base e k v n xs) (h1 : ∀ u ∈ xs, u.oneCell' = true) : ∃ A c, v = .slice A n c ∧ n ≤ c ∧ Rd w A n k xs ∧ v.ownBlock = A.map (·.block) := by
  have hl := h.1
  rcases h.2 with ⟨rfl, rfl⟩ | ⟨g, cap, cur, rfl, hb, hg, hnc, hc, hs, ht⟩
  · exact ⟨none, 0, rfl, Nat.le_refl _, ⟨hl, h1, fun h => absurd h (by omega)⟩, rfl⟩
  · exact ⟨_, cap, rfl, hnc, ⟨hl, h1, fun _ => ⟨_, rfl, h.cells (g := g) rfl⟩⟩, rfl⟩

/-- append(s[:i], make(T, q)...) where there is no room: a new row. -/
theorem run_grow_zeros_k {P : Program} (w : World) (t tn ty e : TypeId) (it : TypeInfo) (z : Value) (kn : IntKind) (k bytes : Nat) (ht : P.underlying t = some (.slice e)) (htn : P.underlying tn = some (.int kn)) (hi : P.info? e = some it)
    (hz : it.zero = some z) (hsz : it.size = k) (hby : it.bytes = bytes) (hzk : z.cells.size = k) (hk : 0 < k)
    (g i cap q : Nat) (x : Int) (hxq : x = (q : Int)) (cur : Array Value) (hg : Blk w g e cur (0, 0)) (hik : i * k ≤ cur.size) (h0 : 0 < q) (hlt : cap < i + q) (hb : (i + q) * bytes ≤ 140737488355328) (h63 : i + q ≤ 9223372036854775807) :
    ∃ (nc : Nat) (rest : List Value) (w1 : World), (Builtin.append_ #[t, tn] ty #[.slice (some ⟨g, 0, none⟩) i cap, .int .i64 x]).run P w = .ok (.slice (some ⟨w.heap.size, 0, none⟩) (i + q) nc) w1 ∧
      Blk w1 w.heap.size e (cur.toList.take (i * k) ++ rest).toArray (0, 0) ∧ rest.length = (nc - i) * k ∧ i + q ≤ nc ∧ nc ≤ maxLen ∧ Below w.heap.size w w1 ∧ w1.heap.size = w.heap.size + 1 := by
  subst hxq
  have hold : (Builtin.firstCells it.size i (.slice (some ⟨g, 0, none⟩) i cap)).run P w.drew = .ok (cur.toList.take (i * k)).toArray w.drew := by
    have hl := run_loadCells_list (P := P) w.drew ⟨g, 0, none⟩ (cur.toList.take (i * k)) (fun j v hj => by
      have hj' : j < i * k := by
        have := (List.getElem?_eq_some_iff.1 hj).1
        rw [List.length_take] at this
        omega
      rw [add0, World.cell?_drew, hg.cell j, ← hj, List.getElem?_take, if_pos hj']
      simp)
    rw [List.length_take, Array.length_toList, Nat.min_eq_left hik] at hl
    simp only [Builtin.firstCells, hsz]
    exact hl
  have hfit : Builtin.nextslicecap (i + q) cap * it.bytes ≤ 281474976710656 := growslice_fits hlt (by rw [hby]; exact hb)
  have hqb : q * bytes ≤ 140737488355328 := Nat.le_trans (Nat.mul_le_mul_right _ (by omega)) hb
  have hr := Lib.run_append_grow_zeros (P := P) w t tn ty e it z .i64 kn ht htn hi hz (some ⟨g, 0, none⟩) i cap (cur.toList.take (i * k)) hold q h0 (by rw [hsz]; exact hk) hlt (by omega) (by rw [hby]; omega) hfit
  have hge := grownCap_ge w (i + q) cap e
  refine ⟨_, (Builtin.zeroCells z.cells q ++ Builtin.zeroCells z.cells (grownCap w (i + q) cap e - (i + q))).toList, _, hr, ?_, ?_, hge, grownCap_le_maxLen w _ _ _ (by simp only [maxLen]; omega), ?_, by simp⟩
  · have : (cur.toList.take (i * k) ++ (Builtin.zeroCells z.cells q ++ Builtin.zeroCells z.cells (grownCap w (i + q) cap e - (i + q))).toList).toArray = (cur.toList.take (i * k)).toArray ++ Builtin.zeroCells z.cells q ++ Builtin.zeroCells z.cells (grownCap w (i + q) cap e - (i + q)) := by
      apply Array.toList_inj.1
      simp
    rw [this]
    exact Blk.new w.drew e _ (0, 0)
  · rw [Array.length_toList, Array.size_append, size_zeroCells, size_zeroCells, hzk, ← Nat.add_mul]
    congr 1
    omega
  · exact (Below.refl _ _).drew.alloc (Nat.le_refl _) _
end Go.Proofs.YtojpedgfllgbcaaDoor

/- Worlds that keep all but some blocks; a pile: a block that holds a slice, and the slice's own row. No program in sight. -/
namespace Go.Proofs.YtojpedgfllgbcaaDoor
open Go.RowKit

/-- All blocks but those of S are as they were. -/
structure But (S : Nat → Prop) (w w' : World) : Prop where
  os : w'.os = w.os
  tape : w'.tape = w.tape
  output : w'.output = w.output
  size : w.heap.size ≤ w'.heap.size
  block : ∀ k, k < w.heap.size → ¬ S k → w'.heap[k]? = w.heap[k]?
theorem But.refl (S : Nat → Prop) (w : World) : But S w w := ⟨rfl, rfl, rfl, Nat.le_refl _, fun _ _ _ => rfl⟩
theorem But.of_below {S : Nat → Prop} {w w' : World} (h : Below w.heap.size w w') : But S w w' := ⟨h.os, h.tape, h.output, h.size, fun k hk _ => h.block k hk⟩
theorem But.of_grown {S : Nat → Prop} {w w' : World} {r : Option Nat} (h : w.grownBy w' r) (hr : ∀ k, r = some k → S k) : But S w w' :=
  ⟨h.os, h.tape, h.output, h.size, fun k hk hn => h.block k hk (fun e => hn (hr k e.symm))⟩
theorem But.trans {S S1 : Nat → Prop} {w w1 w2 : World} (h : But S w w1) (h1 : But S1 w1 w2) (hS : ∀ k, S1 k → S k ∨ w.heap.size ≤ k) : But S w w2 :=
  ⟨h1.os.trans h.os, h1.tape.trans h.tape, h1.output.trans h.output, Nat.le_trans h.size h1.size, fun k hk hn =>
    (h1.block k (Nat.lt_of_lt_of_le hk h.size) (fun hs => by rcases hS k hs with h | h; exact hn h; omega)).trans (h.block k hk hn)⟩
theorem But.setCell {S : Nat → Prop} {w w1 : World} (h : But S w w1) (a : Addr) (u : Value) (ha : S a.block ∨ w.heap.size ≤ a.block) : But S w (w1.setCell a u) :=
  ⟨h.os, h.tape, h.output, by simpa [World.setCell] using h.size, fun k hk hn => (Below.heap_setCell w1 a u k (fun e => by rcases ha with h | h; exact hn (e ▸ h); omega)).trans (h.block k hk hn)⟩
theorem But.alloc {S : Nat → Prop} {w w1 : World} (h : But S w w1) (o : Obj) : But S w (w1.alloc o) := h.trans (S1 := fun _ => False) (But.of_below ((Below.refl _ _).alloc (Nat.le_refl _) o)) (fun _ h => h.elim)
theorem But.drew {S : Nat → Prop} {w w1 : World} (h : But S w w1) : But S w w1.drew := ⟨h.os, h.tape, h.output, h.size, h.block⟩
theorem But.drewN {S : Nat → Prop} {w w1 : World} (h : But S w w1) (n : Nat) : But S w (w1.drewN n) := ⟨h.os, h.tape, h.output, h.size, h.block⟩
theorem But.mono {S S1 : Nat → Prop} {w w1 : World} (h : But S w w1) (hS : ∀ k, S k → S1 k ∨ w.heap.size ≤ k) : But S1 w w1 := ⟨h.os, h.tape, h.output, h.size, fun k hk hn => h.block k hk (fun hs => by rcases hS k hs with h | h; exact hn h; omega)⟩
theorem But.below {S : Nat → Prop} {w w1 : World} {B : Nat} (h : But S w w1) (hS : ∀ k, S k → B ≤ k) (hB : B ≤ w.heap.size) : Below B w w1 :=
  ⟨h.os, h.tape, h.output, h.size, fun k hk => h.block k (by omega) (fun hs => by have := hS k hs; omega)⟩
theorem But.heap {S : Nat → Prop} {w w1 : World} (h : But S w w1) {k : Nat} {o : Obj} (hk : w.heap[k]? = some o) (hn : ¬ S k) : w1.heap[k]? = some o := (h.block k (Array.getElem?_eq_some_iff.1 hk).1 hn).trans hk
theorem Blk.but {S : Nat → Prop} {w w1 : World} {g : Nat} {t : TypeId} {cs : Array Value} {fr : Nat × Nat} (hb : Blk w g t cs fr) (h : But S w w1) (hn : ¬ S g) : Blk w1 g t cs fr := h.heap hb hn
theorem owns_but {S : Nat → Prop} {w w1 : World} {base : Nat} {e : TypeId} {k n : Nat} {v : Value} {xs : List Value} (ho : w.ownsRow base e k v n xs) (h : But S w w1) (hn : ∀ g, v.ownBlock = some g → ¬ S g) : w1.ownsRow base e k v n xs := by
  refine ⟨ho.1, ?_⟩
  rcases ho.2 with hl | ⟨g, cap, cur, hv, hb, hg, hr⟩
  · exact .inl hl
  · exact .inr ⟨g, cap, cur, hv, hb, h.heap hg (hn g (by rw [hv]; rfl)), hr⟩
theorem owns_lt {w : World} {base : Nat} {e : TypeId} {k n : Nat} {v : Value} {xs : List Value} (ho : w.ownsRow base e k v n xs) {g : Nat} (hg : v.ownBlock = some g) : g < w.heap.size := (ho.lt g hg).2
theorem owns_base {w : World} {base base' : Nat} {e : TypeId} {k n : Nat} {v : Value} {xs : List Value} (ho : w.ownsRow base e k v n xs) (hb : ∀ g, v.ownBlock = some g → base' ≤ g) : w.ownsRow base' e k v n xs := by
  refine ⟨ho.1, ?_⟩
  rcases ho.2 with hl | ⟨g, cap, cur, hv, _, hr⟩
  · exact .inl hl
  · exact .inr ⟨g, cap, cur, hv, hb g (by rw [hv]; rfl), hr⟩
theorem below_But {S : Nat → Prop} {w w1 w2 : World} (h : Below w.heap.size w w1) (h1 : But S w1 w2) : But S w w2 := (But.of_below (S := S) h).trans h1 (fun _ h => .inl h)

/-! ### rows of things -/
section
variable {α : Type} {enc : α → List Value} {K : Nat}
def EncOk (enc : α → List Value) (K : Nat) : Prop := ∀ x, (enc x).length = K ∧ ∀ u ∈ enc x, u.oneCell' = true
theorem row_len (h : EncOk enc K) (l : List α) : (l.flatMap enc).length = l.length * K := by
  induction l with
  | nil => simp
  | cons a l ih => rw [List.flatMap_cons, List.length_append, ih, (h a).1, List.length_cons, Nat.add_mul]; omega
theorem row_one (h : EncOk enc K) (l : List α) : ∀ u ∈ l.flatMap enc, u.oneCell' = true := by
  intro u hu
  obtain ⟨x, _, hx⟩ := List.mem_flatMap.1 hu
  exact (h x).2 u hx
theorem row_take (h : EncOk enc K) (l : List α) (i : Nat) : (l.flatMap enc).take (i * K) = (l.take i).flatMap enc := by
  induction l generalizing i with
  | nil => simp
  | cons a l ih =>
    cases i with
    | zero => simp
    | succ i =>
      rw [List.flatMap_cons, List.take_succ_cons, List.flatMap_cons, List.take_append, (h a).1, List.take_of_length_le (by rw [(h a).1, Nat.add_mul]; omega), ← ih i]
      congr 2
      rw [Nat.add_mul]; omega
theorem row_drop (h : EncOk enc K) (l : List α) (i : Nat) : (l.flatMap enc).drop (i * K) = (l.drop i).flatMap enc := by
  induction l generalizing i with
  | nil => simp
  | cons a l ih =>
    cases i with
    | zero => simp
    | succ i =>
      rw [List.flatMap_cons, List.drop_succ_cons, List.drop_append, (h a).1, List.drop_eq_nil_of_le (by rw [(h a).1, Nat.add_mul]; omega), List.nil_append, ← ih i]
      congr 1
      rw [Nat.add_mul]; omega
/-- The cells of the thing at a place. -/
theorem row_at (h : EncOk enc K) (l : List α) (i j : Nat) (x : α) (u : Value) (hi : l[i]? = some x) (hj : (enc x)[j]? = some u) : (l.flatMap enc)[i * K + j]? = some u := by
  induction l generalizing i with
  | nil => simp at hi
  | cons a l ih =>
    cases i with
    | zero =>
      simp at hi
      subst hi
      rw [List.flatMap_cons, Nat.zero_mul, Nat.zero_add, List.getElem?_append_left (List.getElem?_eq_some_iff.1 hj).1]
      exact hj
    | succ i =>
      rw [List.flatMap_cons, List.getElem?_append_right (by rw [(h a).1, Nat.add_mul]; omega), (h a).1, show (i + 1) * K + j - K = i * K + j by rw [Nat.add_mul]; omega]
      exact ih i (by simpa using hi)
end

/-! ### a pile -/
def putL {α : Type} (l : List α) (i : Nat) (x : α) : List α := l.take i ++ x :: l.drop i
def cutL {α : Type} (l : List α) (i : Nat) : List α := l.take i ++ l.drop (i + 1)
theorem putL_len {α : Type} (l : List α) (i : Nat) (x : α) (hi : i ≤ l.length) : (putL l i x).length = l.length + 1 := by simp [putL]; omega
theorem cutL_len {α : Type} (l : List α) (i : Nat) (hi : i < l.length) : (cutL l i).length = l.length - 1 := by simp [cutL]; omega
theorem putL_end {α : Type} (l : List α) (x : α) : putL l l.length x = l ++ [x] := by simp [putL]
theorem cut_put {α : Type} (l : List α) (i : Nat) (x : α) (hi : i ≤ l.length) : cutL (putL l i x) i = l := by
  unfold cutL putL
  rw [List.take_append_of_le_length (by simp; omega), List.take_of_length_le (l := l.take i) (by simp; omega), List.drop_append, List.length_take, Nat.min_eq_left hi, List.drop_eq_nil_of_le (by simp; omega), show i + 1 - i = 1 by omega]
  simp

/-- The one at a place, if it is one. -/
def getL {α : Type} (l : List α) (i : Int) : Option α := if 0 ≤ i then l[i.toNat]? else none
theorem getL_isSome {α : Type} (l : List α) (i : Int) : (getL l i).isSome = (decide (0 ≤ i) && decide (i < (l.length : Int))) := by
  unfold getL
  by_cases h : 0 ≤ i
  · rw [if_pos h]
    by_cases h' : i < (l.length : Int)
    · rw [List.getElem?_eq_getElem (by omega)]; simp [h, h']
    · rw [List.getElem?_eq_none (by omega)]; simp [h, h']
  · rw [if_neg h]; simp [h]
theorem getL_some {α : Type} {l : List α} {i : Int} {x : α} (h : getL l i = some x) : ∃ j : Nat, i = (j : Int) ∧ j < l.length ∧ l[j]? = some x := by
  unfold getL at h
  split at h
  · exact ⟨i.toNat, by omega, (List.getElem?_eq_some_iff.1 h).1, h⟩
  · cases h
theorem getL_nat {α : Type} (l : List α) (j : Nat) : getL l (j : Int) = l[j]? := by simp [getL]
theorem getL_none {α : Type} {l : List α} {i : Int} (h : getL l i = none) : i < 0 ∨ (l.length : Int) ≤ i := by
  unfold getL at h
  split at h
  · have := List.getElem?_eq_none_iff.1 h; omega
  · omega
theorem getL_last {α : Type} (l : List α) : getL l ((l.length : Int) - 1) = l.getLast? := by
  cases l with
  | nil => rfl
  | cons a l => rw [show (((a :: l).length : Nat) : Int) - 1 = (((a :: l).length - 1 : Nat) : Int) by simp, getL_nat, List.getLast?_eq_getElem?]

structure Stk {α : Type} (st e : TypeId) (K : Nat) (enc : α → List Value) (w : World) (p : Nat) (v : Value) (l : List α) : Prop where
  cell : Blk w p st #[v] (0, 0)
  row : w.ownsRow 0 e K v l.length (l.flatMap enc)
  apart : v.ownBlock ≠ some p
/-- The blocks of a pile. -/
def foot (p : Nat) (v : Value) : Nat → Prop := fun k => k = p ∨ v.ownBlock = some k
section
variable {α : Type} {st e : TypeId} {K : Nat} {enc : α → List Value} {w w1 : World} {p : Nat} {v : Value} {l : List α}
theorem Stk.lt (h : Stk st e K enc w p v l) {k : Nat} (hk : foot p v k) : k < w.heap.size := by
  rcases hk with rfl | hk
  · exact h.cell.lt
  · exact owns_lt h.row hk
theorem Stk.but {S : Nat → Prop} (h : Stk st e K enc w p v l) (hb : But S w w1) (hn : ∀ k, foot p v k → ¬ S k) : Stk st e K enc w1 p v l :=
  ⟨h.cell.but hb (hn p (.inl rfl)), owns_but h.row hb (fun g hg => hn g (.inr hg)), h.apart⟩
theorem Stk.keep (h : Stk st e K enc w p v l) (hb : Below w.heap.size w w1) : Stk st e K enc w1 p v l := h.but (S := fun _ => False) (But.of_below hb) (fun _ _ h => h)
end
/-- The footprint grows by new blocks alone. -/
def Grown (w : World) (v v' : Value) : Prop := v'.ownBlock = v.ownBlock ∨ ∃ k, w.heap.size ≤ k ∧ v'.ownBlock = some k
theorem Grown.refl (w : World) (v : Value) : Grown w v v := .inl rfl
theorem Grown.trans {w w1 : World} {v v1 v2 : Value} (h : Grown w v v1) (hw : w.heap.size ≤ w1.heap.size) (h1 : Grown w1 v1 v2) : Grown w v v2 := by
  rcases h1 with e | ⟨k, hk, e⟩
  · rcases h with e' | ⟨k, hk, e'⟩
    · exact .inl (e.trans e')
    · exact .inr ⟨k, hk, e.trans e'⟩
  · exact .inr ⟨k, Nat.le_trans hw hk, e⟩
theorem Grown.foot {w : World} {v v' : Value} (h : Grown w v v') (p : Nat) {k : Nat} (hk : foot p v' k) : foot p v k ∨ w.heap.size ≤ k := by
  rcases hk with rfl | hk
  · exact .inl (.inl rfl)
  · rcases h with e | ⟨j, hj, e⟩
    · exact .inl (.inr (e ▸ hk))
    · rw [e] at hk; cases hk; exact .inr hj

theorem stk_stored {α : Type} {st e : TypeId} {K : Nat} {enc : α → List Value} {w1 : World} {p : Nat} {v0 v1 : Value} {l1 : List α} {xs : List Value} {n : Nat} (hp : Blk w1 p st #[v0] (0, 0)) (hr : w1.ownsRow 0 e K v1 n xs) (hne : v1.ownBlock ≠ some p)
    (hn : n = l1.length) (hx : xs = l1.flatMap enc) : Stk st e K enc (w1.setCell ⟨p, 0, none⟩ v1) p v1 l1 := by
  subst hn hx
  refine ⟨?_, ?_, hne⟩
  · have := hp.set 0 v1
    simpa using this
  · exact owns_but hr ((But.refl (fun k => k = p) w1).setCell ⟨p, 0, none⟩ v1 (.inl rfl)) (fun g hg e => hne (by rw [hg, e]))
/-- Things of one cell: one is set. -/
theorem row_set1 {α : Type} {enc : α → List Value} {val : α → Value} (h : ∀ x, enc x = [val x]) (l : List α) (j : Nat) (x : α) : (l.flatMap enc).set j (val x) = (l.set j x).flatMap enc := by
  have e : ∀ l : List α, l.flatMap enc = l.map val := fun l => by induction l with
    | nil => rfl
    | cons a l ih => rw [List.flatMap_cons, h, ih]; rfl
  rw [e, e, List.map_set]
theorem own_set1 {w : World} {g : Nat} {e : TypeId} {xs rest : List Value} {j : Nat} {u : Value} (hb : Blk w g e (xs ++ rest).toArray (0, 0)) (hj : j < xs.length) : Blk (w.setCell ⟨g, j, none⟩ u) g e (xs.set j u ++ rest).toArray (0, 0) := by
  have h := hb.set j u
  rw [List.setIfInBounds_toArray, List.set_append_left _ _ hj] at h
  exact h
theorem same_step {α : Type} {l1 l2 : List α} {j : Nat} {x y : α} (h : l1.take j = l2.take j) (h1 : l1[j]? = some x) (h2 : l2[j]? = some y) (hxy : x = y) : l1.take (j + 1) = l2.take (j + 1) := by
  rw [List.take_add_one, List.take_add_one, h, h1, h2, hxy]
theorem same_end {α : Type} {l1 l2 : List α} {j : Nat} (h : l1.take j = l2.take j) (h1 : l1.length ≤ j) (h2 : l2.length = l1.length) : l1 = l2 := by
  rwa [List.take_of_length_le h1, List.take_of_length_le (by omega)] at h

theorem bytes_ne {x y : ByteArray} (h : ¬ x = y) : (x.toList == y.toList) = false := by
  rw [beq_eq_false_iff_ne]
  intro e
  rw [Lib.toList_data, Lib.toList_data] at e
  exact h (ByteArray.ext (Array.toList_inj.1 e))
theorem Rd.take {w : World} {A : Option Addr} {n k : Nat} {xs : List Value} (h : Rd w A n k xs) (m : Nat) (hm : m ≤ n) : Rd w A m k (xs.take (m * k)) := by
  refine ⟨?_, fun u hu => h.2.1 u (List.mem_of_mem_take hu), fun h0 => ?_⟩
  · rw [List.length_take, h.1]
    exact Nat.min_eq_left (Nat.mul_le_mul_right _ hm)
  · obtain ⟨ad, e, hc⟩ := h.2.2 (by omega)
    refine ⟨ad, e, fun j u hu => hc j u ?_⟩
    rw [List.getElem?_take] at hu
    split at hu
    · exact hu
    · cases hu
end Go.Proofs.YtojpedgfllgbcaaDoor

/- append to an owned row, whatever is appended; as a step of a region, too. No program in sight. -/
namespace Go.Proofs.YtojpedgfllgbcaaDoor
open Go.RowKit

theorem run_append_any {P : Program} (w : World) (t ty : TypeId) (base : Nat) (e : TypeId) (i : TypeInfo) (z : Value) (size bytes : Nat) (ht : P.underlying t = some (.slice e)) (hi : P.info? e = some i) (hz : i.zero = some z)
    (hsize : i.size = size) (hby : i.bytes = bytes) (hzs : z.cells.size = size) (hsz : 0 < size) (v : Value) (n : Nat) (xs : List Value) (hown : w.ownsRow base e size v n xs)
    (A : Option Addr) (m c : Nat) (news : List Value) (hr : Rd w A m size news) (h63 : n + m ≤ maxLen) (hbytes : (n + m) * bytes ≤ 140737488355328) (hbase : base ≤ w.heap.size) :
    ∃ v' w', (Builtin.append_ #[t, t] ty #[v, .slice A m c]).run P w = .ok v' w' ∧ w'.ownsRow base e size v' (n + m) (xs ++ news) ∧ w.grownBy w' v.ownBlock ∧ (v'.ownBlock = v.ownBlock ∨ v'.ownBlock = some w.heap.size) := by
  cases A with
  | some ad =>
    obtain ⟨v', w', hr', h2, h3, h4, h5⟩ := run_append_own_at (P := P) w base t ty e i z size bytes ht hi hz hsize hby hzs hsz v n xs hown ad m c news hr.1 (fun j u hj => by
      have hm : 0 < m := by
        have := (List.getElem?_eq_some_iff.1 hj).1
        rcases Nat.eq_zero_or_pos m with h | h
        · have := hr.1; subst h; simp at this; subst this; simp at hj
        · exact h
      obtain ⟨ad', ea, hc⟩ := hr.2.2 hm
      cases ea
      exact hc j u hj) hr.2.1 h63 hbytes hbase
    exact ⟨v', w', hr', h2, h3, h5⟩
  | none =>
    have hm : m = 0 := by
      rcases Nat.eq_zero_or_pos m with h | h
      · exact h
      · obtain ⟨ad, e, _⟩ := hr.2.2 h; cases e
    subst hm
    have hn0 : news = [] := List.eq_nil_of_length_eq_zero (by simpa using hr.1)
    subst hn0
    rcases hown.2 with ⟨rfl, rfl⟩ | ⟨g, cap, cur, rfl, hb, hg, hnc, hcm, hcs, htk⟩
    · refine ⟨.slice none 0 0, w, ?_, by simpa using hown, ⟨rfl, rfl, rfl, Nat.le_refl _, fun _ _ _ => rfl⟩, .inl rfl⟩
      simp [Builtin.append_, run_underlying ht, Builtin.lenOf, Builtin.firstCells, sizeOf, typeInfo, hi]
    · have hs : (P.info? e).map (·.size) = some size := by rw [hi]; simp [hsize]
      have hroom := run_append_room_k (P := P) w t ty e size g n cap none 0 c cur e [] ht hs hg (by simp) (by omega) (fun h => absurd h (by simp)) (fun _ => rfl) (by simp only [List.length_nil, Nat.add_zero]; rw [hcs]; exact Nat.mul_le_mul_right _ hnc) (by simp)
      have e1 : (cur.toList.take (n * size) ++ [] ++ cur.toList.drop (n * size + ([] : List Value).length)).toArray = cur := by
        simp
      rw [e1] at hroom
      refine ⟨_, _, hroom, ?_, grownBy_setRow w g cur, .inl rfl⟩
      refine ⟨by simpa using hown.1, .inr ⟨g, cap, cur, rfl, hb, Blk.setRow (w := w) hg cur, by omega, hcm, hcs, ?_⟩⟩
      simp only [Nat.add_zero, List.append_nil]
      exact htk

/-- The same as an operation in a list. -/
theorem wpList_append_any {P : Program} (w : World) {ops : Array Oper} {rest : List Oper} {o : Oper} {a : Act} {Q : Exit → Act → World → Prop} (hgd : o.guard = none) (s x : Operand) (t : TypeId)
    (ho : o.op = .call { callee := .builtin .append, args := #[s, x], argTypes := #[t, t] })
    (base : Nat) (e : TypeId) (i : TypeInfo) (z : Value) (size bytes : Nat) (ht : P.underlying t = some (.slice e)) (hi : P.info? e = some i) (hz : i.zero = some z)
    (hsize : i.size = size) (hby : i.bytes = bytes) (hzs : z.cells.size = size) (hsz : 0 < size) (v : Value) (n : Nat) (xs : List Value) (hs : a.eval s = v) (hown : w.ownsRow base e size v n xs)
    (A : Option Addr) (m c : Nat) (news : List Value) (hx : a.eval x = .slice A m c) (hr : Rd w A m size news) (h63 : n + m ≤ maxLen) (hbytes : (n + m) * bytes ≤ 140737488355328) (hbase : base ≤ w.heap.size)
    (h : ∀ v' w', w'.ownsRow base e size v' (n + m) (xs ++ news) → w.grownBy w' v.ownBlock → (v'.ownBlock = v.ownBlock ∨ v'.ownBlock = some w.heap.size) → wpList P ops Q rest (a.put o.dst v') w') :
    wpList P ops Q (o :: rest) a w := by
  refine wpList_plain hgd fun K hK => ?_
  obtain ⟨v', w', hr', h2, h3, h5⟩ := run_append_any (P := P) w t o.type base e i z size bytes ht hi hz hsize hby hzs hsz v n xs hown A m c news hr h63 hbytes hbase
  unfold Oper.wp execOp
  simp only [ho, resolve, invoke, builtin, Sem.run_bind, Sem.run_pure, Result.andThen_ok, List.map_toArray, List.map_cons, List.map_nil, hs, hx, hr']
  exact hK _ _ (h v' w' h2 h3 h5)
/-- The same as a step of a region that draws. -/
theorem step_append_any {P : Program} (w : World) {ops : Array Oper} {o : Oper} {a : Act} {K : Act → World → Prop} {Q : Exit → Act → World → Prop} {E : Prop} (hgd : o.guard = none) (s x : Operand) (t : TypeId)
    (ho : o.op = .call { callee := .builtin .append, args := #[s, x], argTypes := #[t, t] })
    (base : Nat) (e : TypeId) (i : TypeInfo) (z : Value) (size bytes : Nat) (ht : P.underlying t = some (.slice e)) (hi : P.info? e = some i) (hz : i.zero = some z)
    (hsize : i.size = size) (hby : i.bytes = bytes) (hzs : z.cells.size = size) (hsz : 0 < size) (v : Value) (n : Nat) (xs : List Value) (hs : a.eval s = v) (hown : w.ownsRow base e size v n xs)
    (A : Option Addr) (m c : Nat) (news : List Value) (hx : a.eval x = .slice A m c) (hr : Rd w A m size news) (h63 : n + m ≤ maxLen) (hbytes : (n + m) * bytes ≤ 140737488355328) (hbase : base ≤ w.heap.size)
    (h : ∀ v' w', w'.ownsRow base e size v' (n + m) (xs ++ news) → w.grownBy w' v.ownBlock → (v'.ownBlock = v.ownBlock ∨ v'.ownBlock = some w.heap.size) → K (a.put o.dst v') w') :
    if Region.wanted o (yielded ops a.tmps) = true then Oper.wp P o a w K Q else E := by
  have hw : Region.wanted o (yielded ops a.tmps) = true := by simp [Region.wanted, hgd]
  rw [if_pos hw]
  obtain ⟨v', w', hr', h2, h3, h5⟩ := run_append_any (P := P) w t o.type base e i z size bytes ht hi hz hsize hby hzs hsz v n xs hown A m c news hr h63 hbytes hbase
  unfold Oper.wp execOp
  simp only [ho, resolve, invoke, builtin, Sem.run_bind, Sem.run_pure, Result.andThen_ok, List.map_toArray, List.map_cons, List.map_nil, hs, hx, hr']
  exact h v' w' h2 h3 h5

/-! ### a pile, and beside it a list of one's own -/
def footL (p : Nat) (v lv : Value) : Nat → Prop := fun k => foot p v k ∨ lv.ownBlock = some k
structure Two {α : Type} (st e : TypeId) (K : Nat) (enc : α → List Value) (w : World) (p : Nat) (v lv : Value) (lp l : List α) : Prop where
  pile : Stk st e K enc w p v lp
  row : w.ownsRow 0 e K lv l.length (l.flatMap enc)
  apart : ∀ k, foot p v k → lv.ownBlock ≠ some k
/-- What was done since w0 touched these blocks alone, or new ones. -/
structure Run (w0 : World) (p : Nat) (v0 lv0 : Value) (w : World) (v lv : Value) : Prop where
  but : But (footL p v0 lv0) w0 w
  foot : ∀ k, footL p v lv k → footL p v0 lv0 k ∨ w0.heap.size ≤ k
section
variable {α : Type} {st e : TypeId} {K : Nat} {enc : α → List Value} {w0 w w1 : World} {p : Nat} {v0 lv0 v lv v' lv' : Value} {lp l lp' l' : List α}
theorem Two.lt (h : Two st e K enc w p v lv lp l) {k : Nat} (hk : footL p v lv k) : k < w.heap.size := by
  rcases hk with hk | hk
  · exact h.pile.lt hk
  · exact owns_lt h.row hk
theorem Two.but {S : Nat → Prop} (h : Two st e K enc w p v lv lp l) (hb : But S w w1) (hn : ∀ k, footL p v lv k → ¬ S k) : Two st e K enc w1 p v lv lp l :=
  ⟨h.pile.but hb (fun k hk => hn k (.inl hk)), owns_but h.row hb (fun k hk => hn k (.inr hk)), h.apart⟩
theorem Two.keep (h : Two st e K enc w p v lv lp l) (hb : Below w.heap.size w w1) : Two st e K enc w1 p v lv lp l := h.but (S := fun _ => False) (But.of_below hb) (fun _ _ h => h)
theorem Two.onPile (h : Two st e K enc w p v lv lp l) (hs : Stk st e K enc w1 p v' lp') (hb : But (foot p v) w w1) (hg : Grown w v v') : Two st e K enc w1 p v' lv lp' l := by
  refine ⟨hs, owns_but h.row hb (fun k hk hf => h.apart k hf hk), fun k hk e => ?_⟩
  rcases hg.foot p hk with hf | hf
  · exact h.apart k hf e
  · have := owns_lt h.row e; omega
theorem Two.onRow (h : Two st e K enc w p v lv lp l) (hr : w1.ownsRow 0 e K lv' l'.length (l'.flatMap enc)) (hb : But (fun k => lv.ownBlock = some k) w w1) (hg : Grown w lv lv') : Two st e K enc w1 p v lv' lp l' := by
  refine ⟨h.pile.but hb (fun k hk hf => h.apart k hk hf), hr, fun k hk e => ?_⟩
  rcases hg with hg | ⟨j, hj, hg⟩
  · exact h.apart k hk (hg ▸ e)
  · rw [hg] at e
    cases e
    have := h.pile.lt hk
    omega
theorem Run.refl (w : World) (p : Nat) (v lv : Value) : Run w p v lv w v lv := ⟨But.refl _ _, fun _ h => .inl h⟩
theorem Run.onPile (r : Run w0 p v0 lv0 w v lv) (hb : But (Proofs.YtojpedgfllgbcaaDoor.foot p v) w w1) (hg : Grown w v v') : Run w0 p v0 lv0 w1 v' lv := by
  refine ⟨r.but.trans hb (fun k hk => r.foot k (.inl hk)), fun k hk => ?_⟩
  rcases hk with hk | hk
  · rcases hg.foot p hk with hf | hf
    · exact r.foot k (.inl hf)
    · exact .inr (Nat.le_trans r.but.size hf)
  · exact r.foot k (.inr hk)
theorem Run.onRow (r : Run w0 p v0 lv0 w v lv) (hb : But (fun k => lv.ownBlock = some k) w w1) (hg : Grown w lv lv') : Run w0 p v0 lv0 w1 v lv' := by
  refine ⟨r.but.trans hb (fun k hk => r.foot k (.inr hk)), fun k hk => ?_⟩
  rcases hk with hk | hk
  · exact r.foot k (.inl hk)
  · rcases hg with hg | ⟨j, hj, hg⟩
    · exact r.foot k (.inr (hg ▸ hk))
    · rw [hg] at hk
      cases hk
      exact .inr (Nat.le_trans r.but.size hj)
theorem Run.step (r : Run w0 p v0 lv0 w v lv) (hb : Below w.heap.size w w1) : Run w0 p v0 lv0 w1 v lv := ⟨r.but.trans (S1 := fun _ => False) (But.of_below hb) (fun _ h => h.elim), r.foot⟩
end
/-- A row cut off behind its first things. -/
theorem own_take {α : Type} {enc : α → List Value} {w : World} {base : Nat} {e : TypeId} {K g cap : Nat} (hE : EncOk enc K) {l : List α} (m : Nat) (hm : m ≤ l.length) (h : w.ownsRow base e K (.slice (some ⟨g, 0, none⟩) l.length cap) l.length (l.flatMap enc)) :
    w.ownsRow base e K (.slice (some ⟨g, 0, none⟩) m cap) m ((l.take m).flatMap enc) := by
  refine ⟨by rw [row_len hE, List.length_take, Nat.min_eq_left hm], ?_⟩
  rcases h.2 with ⟨h, _⟩ | ⟨g', cap', cur, hv, hb, hg, hnc, hcm, hs, ht⟩
  · cases h
  · cases hv
    refine .inr ⟨g, cap, cur, rfl, hb, hg, by omega, hcm, hs, ?_⟩
    rw [← row_take hE, ← ht, List.take_take, Nat.min_eq_left (Nat.mul_le_mul_right _ hm)]

/-! ### a region that only makes memory: each world keeps all that was there when it began -/
section
variable {w1 w w' : World}
theorem made_drew (w1 : World) : Below w1.heap.size w1 w1.drew := (Below.refl _ _).drew
theorem made_alloc (h : Below w1.heap.size w1 w) (o : Obj) : Below w1.heap.size w1 (w.alloc o) := h.alloc h.size o
theorem made_grown {row : Option Nat} (h : Below w1.heap.size w1 w) (hg : w.grownBy w' row) (hr : ∀ k, row = some k → w1.heap.size ≤ k) : Below w1.heap.size w1 w' :=
  ⟨hg.os.trans h.os, hg.tape.trans h.tape, hg.output.trans h.output, Nat.le_trans h.size hg.size, fun k hk =>
    (hg.block k (Nat.lt_of_lt_of_le hk h.size) (fun e => by have := hr k e.symm; omega)).trans (h.block k hk)⟩
end
/-- append to a row that was made in the region itself. -/
theorem step_append_made {P : Program} (w1 w : World) {ops : Array Oper} {o : Oper} {a : Act} {K : Act → World → Prop} {Q : Exit → Act → World → Prop} {E : Prop} (hgd : o.guard = none) (s x : Operand) (t : TypeId)
    (ho : o.op = .call { callee := .builtin .append, args := #[s, x], argTypes := #[t, t] })
    (e : TypeId) (i : TypeInfo) (z : Value) (size bytes : Nat) (ht : P.underlying t = some (.slice e)) (hi : P.info? e = some i) (hz : i.zero = some z)
    (hsize : i.size = size) (hby : i.bytes = bytes) (hzs : z.cells.size = size) (hsz : 0 < size) (v : Value) (n : Nat) (xs : List Value) (hs : a.eval s = v) (hown : w.ownsRow w1.heap.size e size v n xs)
    (A : Option Addr) (m c : Nat) (news : List Value) (hx : a.eval x = .slice A m c) (hr : Rd w A m size news) (h63 : n + m ≤ maxLen) (hbytes : (n + m) * bytes ≤ 140737488355328) (hB : Below w1.heap.size w1 w)
    (h : ∀ v' w', w'.ownsRow w1.heap.size e size v' (n + m) (xs ++ news) → Below w1.heap.size w1 w' → w.grownBy w' v.ownBlock → K (a.put o.dst v') w') :
    if Region.wanted o (yielded ops a.tmps) = true then Oper.wp P o a w K Q else E :=
  step_append_any w hgd s x t ho w1.heap.size e i z size bytes ht hi hz hsize hby hzs hsz v n xs hs hown A m c news hx hr h63 hbytes hB.size
    (fun v' w' h2 h3 _ => h v' w' h2 (made_grown hB h3 (fun k hk => (hown.lt k hk).1)) h3)
theorem made_new (w1 w : World) (e : TypeId) (size : Nat) (hB : Below w1.heap.size w1 w) : (w.alloc (.cells #[] e)).ownsRow w1.heap.size e size (.slice (some ⟨w.heap.size, 0, none⟩) 0 0) 0 [] :=
  World.ownsRow_made w #[] 0 hB.size (Nat.zero_le _) (by simp)
/-- A row's pieces, to be read. -/
theorem rd_take {α : Type} {enc : α → List Value} {w : World} {e : TypeId} {K n base : Nat} {v : Value} {l : List α} (hE : EncOk enc K) (h : w.ownsRow base e K v n (l.flatMap enc)) (A : Option Addr) (c m : Nat) (hv : v = .slice A n c) (hm : m ≤ n) :
    Rd w A m K ((l.take m).flatMap enc) := by
  obtain ⟨A', c', hv', _, hr, _⟩ := own_rd h (row_one hE l)
  rw [hv] at hv'
  cases hv'
  rw [← row_take hE]
  exact hr.take m hm
theorem rd_drop {α : Type} {enc : α → List Value} {w : World} {e : TypeId} {K n base : Nat} {l : List α} (hE : EncOk enc K) {g c : Nat} (h : w.ownsRow base e K (.slice (some ⟨g, 0, none⟩) n c) n (l.flatMap enc)) (m : Nat) (ad : Addr) (hm : m ≤ n) (had : m < n → ad = ⟨g, m * K, none⟩) :
    Rd w (some ad) (n - m) K ((l.drop m).flatMap enc) := by
  have hl := h.1
  refine ⟨?_, row_one hE _, fun h0 => ⟨ad, rfl, fun j u hu => ?_⟩⟩
  · rw [← row_drop hE, List.length_drop, hl, Nat.sub_mul]
  · rw [had (by omega)]
    rw [← row_drop hE, List.getElem?_drop] at hu
    have := h.cells rfl (m * K + j) u hu
    rw [add0] at this
    have ha : (⟨g, m * K, none⟩ : Addr).add j = ⟨g, m * K + j, none⟩ := by unfold Addr.add; split <;> simp_all
    rw [ha]
    exact this
/-- A list made anew, beside the pile. -/
theorem Two.anew {α : Type} {st e : TypeId} {K : Nat} {enc : α → List Value} {w w1 : World} {p : Nat} {v lv lv' : Value} {lp l l' : List α} {n : Nat} {xs : List Value} (h : Two st e K enc w p v lv lp l) (hr : w1.ownsRow w.heap.size e K lv' n xs) (hb : Below w.heap.size w w1) (hn : n = l'.length) (hx : xs = l'.flatMap enc) :
    Two st e K enc w1 p v lv' lp l' := by
  subst hn hx
  refine ⟨h.pile.keep hb, owns_base hr (fun _ _ => Nat.zero_le _), fun k hk e => ?_⟩
  have h1 := (hr.lt k e).1
  have h2 := h.pile.lt hk
  omega
theorem Run.anew {w0 w w1 : World} {p : Nat} {v0 lv0 v lv lv' : Value} {e : TypeId} {K n : Nat} {xs : List Value} (r : Run w0 p v0 lv0 w v lv) (hr : w1.ownsRow w.heap.size e K lv' n xs) (hb : Below w.heap.size w w1) : Run w0 p v0 lv0 w1 v lv' := by
  refine ⟨r.but.trans (S1 := fun _ => False) (But.of_below hb) (fun _ h => h.elim), fun k hk => ?_⟩
  rcases hk with hk | hk
  · exact r.foot k (.inl hk)
  · exact .inr (Nat.le_trans r.but.size (hr.lt k hk).1)

/-- Behind a change of the row, the new slice about to be stored. -/
theorem stored_after {α : Type} {st e : TypeId} {K : Nat} {enc : α → List Value} {w w0 w1 : World} {p n : Nat} {v v1 : Value} {l l1 : List α} {xs : List Value} (hE : EncOk enc K) (h : Stk st e K enc w p v l) (hw0 : Below w.heap.size w w0) (hown1 : w1.ownsRow 0 e K v1 n xs)
    (hg1 : w0.grownBy w1 v.ownBlock) (hat1 : v1.ownBlock = v.ownBlock ∨ v1.ownBlock = some w0.heap.size) (hn : n = l1.length) (hx : xs = l1.flatMap enc) :
    ∃ A1 cap1, v1 = .slice A1 n cap1 ∧ w1.cell? ⟨p, 0, none⟩ = some v ∧ w1.frozen? ⟨p, 0, none⟩ = false ∧
      Hid (Stk st e K enc (w1.setCell ⟨p, 0, none⟩ v1) p v1 l1) ∧ Hid (But (foot p v) w (w1.setCell ⟨p, 0, none⟩ v1)) ∧ Hid (Grown w v v1) ∧ Hid (But (fun k => v.ownBlock = some k) w w1) := by
  subst hn hx
  have hplt := h.cell.lt
  have hs := hw0.size
  have hbut0 : But (fun k => v.ownBlock = some k) w w1 := (But.of_below hw0).trans (But.of_grown hg1 (fun k hk => hk)) (fun k hk => .inl hk)
  have hbut1 : But (foot p v) w w1 := hbut0.mono (fun k hk => .inl (.inr hk))
  have hcell1 : Blk w1 p st #[v] (0, 0) := h.cell.but hbut0 (fun e => h.apart e)
  have hne : v1.ownBlock ≠ some p := by
    rcases hat1 with e | e
    · rw [e]; exact h.apart
    · rw [e]; simp; omega
  have hgr : Grown w v v1 := by
    rcases hat1 with e | e
    · exact .inl e
    · exact .inr ⟨_, hs, e⟩
  have hst : Stk st e K enc (w1.setCell ⟨p, 0, none⟩ v1) p v1 l1 := stk_stored hcell1 hown1 hne rfl rfl
  have hbut2 : But (foot p v) w (w1.setCell ⟨p, 0, none⟩ v1) := hbut1.setCell _ _ (.inl (.inl rfl))
  obtain ⟨A1, c1, hv1, _, _, _⟩ := own_rd hown1 (row_one hE l1)
  exact ⟨A1, c1, hv1, hcell1.cell 0, hcell1.frozen 0 (.inr (Nat.zero_le _)), hst, hbut2, hgr, hbut0⟩

theorem set4_but (w : World) (b : Nat) (u0 u1 u2 u3 : Value) : But (fun k => k = b) w ((((w.setCell ⟨b, 0, none⟩ u0).setCell ⟨b, 1, none⟩ u1).setCell ⟨b, 2, none⟩ u2).setCell ⟨b, 3, none⟩ u3) :=
  ((((But.refl (fun k => k = b) w).setCell _ _ (.inl rfl)).setCell _ _ (.inl rfl)).setCell _ _ (.inl rfl)).setCell _ _ (.inl rfl)
/-- append onto a row that the call made. -/
theorem append_made {P : Program} (w1 w : World) {ops : Array Oper} {rest : List Oper} {o : Oper} {a : Act} {Q : Exit → Act → World → Prop} (hgd : o.guard = none) (s x : Operand) (t : TypeId)
    (ho : o.op = .call { callee := .builtin .append, args := #[s, x], argTypes := #[t, t] })
    (e : TypeId) (i : TypeInfo) (z : Value) (size bytes : Nat) (ht : P.underlying t = some (.slice e)) (hi : P.info? e = some i) (hz : i.zero = some z)
    (hsize : i.size = size) (hby : i.bytes = bytes) (hzs : z.cells.size = size) (hsz : 0 < size) (v : Value) (n : Nat) (xs : List Value) (hs : a.eval s = v) (hown : w.ownsRow w1.heap.size e size v n xs)
    (A : Option Addr) (m c : Nat) (news : List Value) (hx : a.eval x = .slice A m c) (hr : Rd w A m size news) (h63 : n + m ≤ maxLen) (hbytes : (n + m) * bytes ≤ 140737488355328) (hB : Below w1.heap.size w1 w)
    (h : ∀ v' w', w'.ownsRow w1.heap.size e size v' (n + m) (xs ++ news) → Below w1.heap.size w1 w' → w.grownBy w' v.ownBlock → wpList P ops Q rest (a.put o.dst v') w') :
    wpList P ops Q (o :: rest) a w :=
  wpList_append_any w hgd s x t ho w1.heap.size e i z size bytes ht hi hz hsize hby hzs hsz v n xs hs hown A m c news hx hr h63 hbytes hB.size
    (fun v' w' h2 h3 _ => h v' w' h2 (made_grown hB h3 (fun k hk => (hown.lt k hk).1)) h3)
end Go.Proofs.YtojpedgfllgbcaaDoor

/- A region that draws its order, whose operations only read and whose callees make new memory alone: one walk of the text's order serves every order. -/
namespace Go.Proofs.YtojpedgfllgbcaaDoor
open Go.RowKit

/-- A world in which all that was there is as it was. -/
structure After (w : World) : Type where
  W : World
  below : Below w.heap.size w W
instance (w : World) : Nonempty (After w) := ⟨⟨w, Below.refl _ _⟩⟩
theorem After.drew (w : World) : ∃ n : After w, w.drew = n.W := ⟨⟨w.drew, ⟨rfl, rfl, rfl, Nat.le_refl _, fun _ _ => rfl⟩⟩, rfl⟩

theorem wp_region_after {P : Program} {id : Nat} {Q : Exit → Act → World → Prop} {a : Act} {w : World} {l : List Oper} (hm : P.follows .mixedOrders = true) (hB : Region.lexB .any l.toArray = true)
    (h : wpQuiet P l.toArray (fun w' => ∃ n : After w, w' = n.W) (fun a' => ∀ w', (∃ n : After w, w' = n.W) → Q .normal a' w') l a) : (Code.region id l.toArray true).wp P Q a w :=
  wp_region_quiet (C := fun w' => ∃ n : After w, w' = n.W) hm hB (After.drew w) (by simpa using h)

theorem call_after {P : Program} {f : FuncId} {args : Array Value} {w : World} {n : After w} {v : Value} (h : Calls P f args n.W fun e w'' => e = .returned v ∧ Below n.W.heap.size n.W w'') :
    Calls P f args n.W fun e w'' => e = .returned v ∧ ∃ m : After w, w'' = m.W :=
  h.mono fun _ w'' ⟨he, hb⟩ => ⟨he, ⟨⟨w'', below_both n.below hb⟩, rfl⟩⟩
theorem call_same {P : Program} {f : FuncId} {args : Array Value} {w : World} {n : After w} {v : Value} (h : Calls P f args n.W fun e w'' => e = .returned v ∧ n.W = w'') :
    Calls P f args n.W fun e w'' => e = .returned v ∧ ∃ m : After w, w'' = m.W :=
  h.mono fun _ _ ⟨he, hb⟩ => ⟨he, ⟨n, hb.symm⟩⟩
end Go.Proofs.YtojpedgfllgbcaaDoor

/- Arguments that are slices of structs, of any number of one-cell fields, slices among them: what the walk is told of them. No program in sight. -/
namespace Go.Proofs.YtojpedgfllgbcaaDoor
open Go.ChangeShapes Go.WideShapes Go.ChangeAt Go.RowKit Go.Deep

theorem listOf {α : Type} (n : Nat) (P : Nat → α → Prop) (h : ∀ i, i < n → ∃ y, P i y) : ∃ l : List α, l.length = n ∧ ∀ i y, l[i]? = some y → P i y := by
  induction n with
  | zero => exact ⟨[], rfl, fun i y h => by simp at h⟩
  | succ n ih =>
    obtain ⟨l, hl, hp⟩ := ih (fun i hi => h i (by omega))
    obtain ⟨y, hy⟩ := h n (by omega)
    refine ⟨l ++ [y], by simp [hl], fun i z hz => ?_⟩
    rcases Nat.lt_or_ge i l.length with hi | hi
    · rw [List.getElem?_append_left hi] at hz
      exact hp i z hz
    · rw [List.getElem?_append_right hi] at hz
      have : i - l.length = 0 := by
        rcases Nat.eq_zero_or_pos (i - l.length) with h0 | h0
        · exact h0
        · rw [List.getElem?_eq_none (by simp; omega)] at hz; cases hz
      rw [this] at hz
      simp at hz
      subst hz
      rw [show i = n by omega]
      exact hy

/-- A row read element by element. -/
theorem rd_of {α : Type} {en : α → List Value} {K : Nat} (hE : EncOk en K) (hK : 0 < K) {w : World} {a : Addr} {l : List α} {n : Nat} (hn : n = l.length)
    (hp : ∀ i y, l[i]? = some y → ∀ j u, (en y)[j]? = some u → w.cell? (a.add (i * K + j)) = some u) : Rd w (some a) n K (l.flatMap en) := by
  subst hn
  refine ⟨by rw [row_len hE], row_one hE l, fun _ => ⟨a, rfl, fun j u hu => ?_⟩⟩
  have hjl : j < (l.flatMap en).length := (List.getElem?_eq_some_iff.1 hu).1
  rw [row_len hE] at hjl
  have hi : j / K < l.length := (Nat.div_lt_iff_lt_mul hK).2 hjl
  obtain ⟨y, hy⟩ : ∃ y, l[j / K]? = some y := ⟨_, List.getElem?_eq_getElem hi⟩
  have hj : j % K < (en y).length := by rw [(hE y).1]; exact Nat.mod_lt _ hK
  obtain ⟨u', hu'⟩ : ∃ u', (en y)[j % K]? = some u' := ⟨_, List.getElem?_eq_getElem hj⟩
  have hrow := row_at hE l (j / K) (j % K) y u' hy hu'
  have hjj : j / K * K + j % K = j := by rw [Nat.mul_comm]; exact Nat.div_add_mod j K
  rw [hjj] at hrow
  rw [hrow] at hu
  have hue : u' = u := Option.some.inj hu
  rw [← hue]
  have := hp (j / K) y hy (j % K) u' hu'
  rw [hjj] at this
  exact this

section
variable {H : Type} {enc : TypeId × Value → H} {P : Program} {w : World} {base : Nat} {held : Bool}
/-- What is told of one cell. -/
def Told (enc : TypeId × Value → H) (P : Program) (w : World) (base : Nat) (held : Bool) (t : TypeId) (v : Value) : Prop := ∃ n y, DataW.trod enc P w base (fun _ => true) held n t [v] = some y
theorem told_slice {t e : TypeId} {v : Value} (ht : P.underlying t = some (.slice e)) (h : Told enc P w base held t v) : ∃ A n c, v = .slice A n c := by
  obtain ⟨fuel, y, hf⟩ := h
  rcases open_slice ht hf with ⟨hcs, _⟩ | ⟨a, len, cap, _, _, _, _, hcs, _⟩
  · simp at hcs; exact ⟨_, _, _, hcs⟩
  · simp at hcs; exact ⟨_, _, _, hcs⟩
theorem told_int {t : TypeId} {k : IntKind} {v : Value} (ht : P.underlying t = some (.int k)) (h : Told enc P w base held t v) : ∃ z : Int, v = .int k z ∧ (Lit.int k z).wf = true := by
  obtain ⟨fuel, y, hf⟩ := h
  obtain ⟨z, hz, _, hw⟩ := DataW.trod_int ht hf
  exact ⟨z, by simpa using hz, hw⟩
theorem told_string {t : TypeId} {v : Value} (ht : P.underlying t = some .string) (h : Told enc P w base held t v) : ∃ s : ByteArray, v = .string s ∧ s.size ≤ maxLen := by
  obtain ⟨fuel, y, hf⟩ := h
  obtain ⟨z, hz, _, hw⟩ := DataW.trod_string ht hf
  exact ⟨z, by simpa using hz, hw⟩
theorem told_bool {t : TypeId} {v : Value} (ht : P.underlying t = some .bool) (h : Told enc P w base held t v) : ∃ b : Bool, v = .bool b := by
  obtain ⟨fuel, y, hf⟩ := h
  obtain ⟨z, hz, _⟩ := DataW.trod_bool ht hf
  exact ⟨z, by simpa using hz⟩
theorem told_arg {t : TypeId} {A : Option Addr} {n c : Nat} {d : DataW H} {ps : List MemPlace} (h : DataW.Trod enc P w base (fun _ => true) held t (.slice A n c) d ps) : Told enc P w base held t (.slice A n c) := by
  obtain ⟨fuel, hf⟩ := h
  exact ⟨fuel, _, by simpa [Value.cells] using hf⟩

theorem rd_rows {t e : TypeId} {fs : Array Field} {α : Type} {en : α → List Value} {K : Nat} {Q : α → Prop} (hE : EncOk en K) (hK0 : 0 < K) (ht : P.underlying t = some (.slice e)) (he : P.underlying e = some (.struct fs)) (hone : oneCellFields P fs = true) (hC : P.cellsOf e = fs.size) (hK : fs.size = K)
    (dec : ∀ vs : List Value, vs.length = K → (∀ (j : Nat) (f : Field) (v : Value), fs[j]? = some f → vs[j]? = some v → Told enc P w base held f.type v) → ∃ x, Q x ∧ en x = vs)
    {A : Option Addr} {n c : Nat} (h : Told enc P w base held t (.slice A n c)) :
    ∃ l : List α, n = l.length ∧ Rd w A n K (l.flatMap en) ∧ (∀ x ∈ l, Q x) ∧ n ≤ c ∧ c ≤ maxLen := by
  obtain ⟨fuel, y, hfu⟩ := h
  rcases open_slice ht hfu with ⟨hcs, _⟩ | ⟨a, len, cap, m, k, D, Pl, hcs, _, hl, hm, hmm, _, hi⟩
  · simp at hcs
    obtain ⟨rfl, rfl, rfl⟩ := hcs
    exact ⟨[], rfl, ⟨by simp, by simp, fun h => absurd h (by omega)⟩, by simp, Nat.le_refl _, Nat.zero_le _⟩
  · simp at hcs
    obtain ⟨rfl, rfl, rfl⟩ := hcs
    have hmc : m = c := by simpa using hmm
    obtain ⟨l, hll, hp⟩ := listOf n (fun i (y : α) => Q y ∧ ∀ j u, (en y)[j]? = some u → w.cell? (a.add (i * K + j)) = some u) (fun i hin => by
      obtain ⟨cs', hcl, htr⟩ := hi i (by omega)
      rw [hC, hK] at hcl
      obtain ⟨_, hlen, hat⟩ := World.cells?_some hcl
      obtain ⟨xs, n', _, _, _, hxl, hfld⟩ := DataW.trod_struct he htr
      obtain ⟨x, hq, hx⟩ := dec cs' hlen (fun j f v hj hv => by
        obtain ⟨ho, hk⟩ := hone_of hone j f hj
        have hjl : j < cs'.length := (List.getElem?_eq_some_iff.1 hv).1
        have hv' : cs'[j] = v := (List.getElem?_eq_some_iff.1 hv).2
        have hx := hfld j f hj
        have h1 : (cs'.drop j).take 1 = [v] := by rw [List.drop_eq_getElem_cons hjl, hv']; rfl
        rw [ho, hk, h1] at hx
        have hxs : xs[j]? = some (xs[j]'(by omega)) := List.getElem?_eq_getElem _
        exact ⟨_, _, hx.trans hxs⟩)
      refine ⟨x, hq, fun j u hu => ?_⟩
      rw [hx] at hu
      have hjl : j < cs'.length := (List.getElem?_eq_some_iff.1 hu).1
      rw [← Go.Deep.add_add, hat j (by omega)]
      exact hu)
    exact ⟨l, hll.symm, rd_of hE hK0 hll.symm (fun i y hy => (hp i y hy).2), fun x hx => by
      obtain ⟨i, hi, rfl⟩ := List.mem_iff_getElem.1 hx
      exact (hp i _ (List.getElem?_eq_getElem hi)).1, hl, hm⟩
end
end Go.Proofs.YtojpedgfllgbcaaDoor

/- What an attribute is, as a value and as cells; an argument that is a slice of attributes, or of asks of layer 19. No program in sight. -/
namespace Go.Proofs.YtojpedgfllgbcaaDoor
open Go.ChangeShapes Go.WideShapes Go.ChangeAt Go.RowKit Go.Deep

structure At where
  name : ByteArray
  val : ByteArray
  deriving DecidableEq
def enc_at : At → List Value := fun x => [.string x.name, .string x.val]
def val_at : At → Value := fun x => .agg #[.string x.name, .string x.val]
theorem encOk_at : EncOk enc_at 2 := fun x => ⟨rfl, fun u hu => List.all_eq_true.1 (show (enc_at x).all (fun u => u.oneCell') = true from rfl) u hu⟩
def At.ok (x : At) : Prop := x.name.size ≤ maxLen ∧ x.val.size ≤ maxLen
/-- A slice that reads as these attributes. -/
def RdA (w : World) (A : Option Addr) (n : Nat) (l : List At) : Prop := n = l.length ∧ Rd w A n 2 (l.flatMap enc_at)

section
variable {H : Type} {enc : TypeId × Value → H} {P : Program} {w : World} {base : Nat} {held : Bool}
theorem rd_attrs {t e ts : TypeId} {f0 f1 : Field} (ht : P.underlying t = some (.slice e)) (he : P.underlying e = some (.struct #[f0, f1])) (hone : oneCellFields P #[f0, f1] = true) (hC : P.cellsOf e = 2) (h0 : f0.type = ts) (h1 : f1.type = ts) (hs : P.underlying ts = some .string)
    {A : Option Addr} {n c : Nat} (h : Told enc P w base held t (.slice A n c)) :
    ∃ l : List At, RdA w A n l ∧ (∀ x ∈ l, x.ok) ∧ n ≤ c ∧ c ≤ maxLen := by
  obtain ⟨l, hn, hr, hq, hc⟩ := rd_rows (en := enc_at) (K := 2) (Q := At.ok) encOk_at (by decide) ht he hone hC rfl (fun vs hl hf => by
    match vs, hl with
    | [v0, v1], _ =>
      have g0 := hf 0 f0 v0 rfl rfl
      have g1 := hf 1 f1 v1 rfl rfl
      rw [h0] at g0
      rw [h1] at g1
      obtain ⟨s0, rfl, b0⟩ := told_string hs g0
      obtain ⟨s1, rfl, b1⟩ := told_string hs g1
      exact ⟨⟨s0, s1⟩, ⟨b0, b1⟩, rfl⟩) h
  exact ⟨l, ⟨hn, hr⟩, hq, hc⟩
end
end Go.Proofs.YtojpedgfllgbcaaDoor

/- Lists of attributes, as plain functions: what stands where, what is added, the unique ones, alike ones. No program in sight. -/
namespace Go.Proofs.YtojpedgfllgbcaaDoor

def nameP (s : ByteArray) (x : At) : Bool := x.name.toList == s.toList
/-- The first place of a name, or -1. -/
def findA (l : List At) (s : ByteArray) : Int := match l.findIdx? (nameP s) with
  | some k => (k : Int)
  | none => -1
theorem findA_hit {l : List At} {s : ByteArray} {j : Nat} {x : At} (h : (l.take j).any (nameP s) = false) (hx : l[j]? = some x) (hp : nameP s x = true) : findA l s = (j : Int) := by
  unfold findA
  obtain ⟨hj, hxe⟩ := List.getElem?_eq_some_iff.1 hx
  have : l.findIdx? (nameP s) = some j := by
    rw [List.findIdx?_eq_some_iff_getElem]
    refine ⟨hj, by rw [hxe]; exact hp, fun i hi => ?_⟩
    have hil : i < l.length := by omega
    have := List.any_eq_false.1 h l[i] (by rw [List.mem_take_iff_getElem]; exact ⟨i, by omega, rfl⟩)
    simpa using this
  rw [this]
theorem findA_none {l : List At} {s : ByteArray} (h : l.any (nameP s) = false) : findA l s = -1 := by
  unfold findA
  have : l.findIdx? (nameP s) = none := by
    rw [List.findIdx?_eq_none_iff]
    exact fun x hx => by simpa using List.any_eq_false.1 h x hx
  rw [this]
theorem findA_some {l : List At} {s : ByteArray} (h : l.any (nameP s) = true) : ∃ (k : Nat) (x : At), findA l s = (k : Int) ∧ l[k]? = some x ∧ nameP s x = true ∧ l.find? (nameP s) = some x := by
  unfold findA
  cases hf : l.findIdx? (nameP s) with
  | none =>
    rw [List.findIdx?_eq_none_iff] at hf
    obtain ⟨x, hx, hp⟩ := List.any_eq_true.1 h
    have := hf x hx
    rw [hp] at this; cases this
  | some k =>
    rw [List.findIdx?_eq_some_iff_getElem] at hf
    obtain ⟨hk, hp, hn⟩ := hf
    refine ⟨k, l[k], rfl, List.getElem?_eq_getElem hk, hp, ?_⟩
    rw [List.find?_eq_some_iff_getElem]
    exact ⟨hp, k, hk, rfl, fun j hj => by simpa using hn j hj⟩
theorem findA_neg (l : List At) (s : ByteArray) : decide (findA l s < 0) = !l.any (nameP s) := by
  cases h : l.any (nameP s) with
  | true => obtain ⟨k, x, hk, _⟩ := findA_some h; rw [hk]; exact decide_eq_false (by omega)
  | false => rw [findA_none h]; rfl
theorem any_take {l : List At} {s : ByteArray} {j : Nat} {x : At} (h : (l.take j).any (nameP s) = false) (hx : l[j]? = some x) : (l.take (j + 1)).any (nameP s) = nameP s x := by
  rw [List.take_add_one, hx, List.any_append, h]; simp

def addA (l : List At) (a : At) : List At := if l.any (nameP a.name) = true then l else l ++ [a]
def moreA (l m : List At) : List At := m.foldl addA l
def uniqA (l : List At) : List At := moreA [] l
theorem addA_len (l : List At) (a : At) : (addA l a).length ≤ l.length + 1 := by unfold addA; split <;> simp
theorem moreA_len (l m : List At) : (moreA l m).length ≤ l.length + m.length := by
  induction m generalizing l with
  | nil => exact Nat.le_refl _
  | cons a m ih => have := ih (addA l a); have := addA_len l a; simp only [moreA, List.foldl_cons, List.length_cons] at *; omega
theorem uniqA_len (l : List At) : (uniqA l).length ≤ l.length := by have := moreA_len [] l; simpa [uniqA] using this
theorem moreA_take (l m : List At) {j : Nat} {x : At} (hx : m[j]? = some x) : moreA l (m.take (j + 1)) = addA (moreA l (m.take j)) x := by
  unfold moreA
  rw [List.take_add_one, hx, List.foldl_append]; rfl
def alikeX (b : List At) (x : At) : Bool := match b.find? (nameP x.name) with
  | some y => y.val.toList == x.val.toList
  | none => false
def alikeA (a b : List At) : Bool := (uniqA a).all (alikeX (uniqA b)) && decide ((uniqA a).length = (uniqA b).length)
theorem all_take {l : List At} {p : At → Bool} {j : Nat} {x : At} (h : (l.take j).all p = true) (hx : l[j]? = some x) : (l.take (j + 1)).all p = p x := by
  rw [List.take_add_one, hx, List.all_append, h]; simp
theorem all_cut {l : List At} {p : At → Bool} {j : Nat} (h : (l.take j).all p = false) : l.all p = false := by
  obtain ⟨x, hx, hp⟩ := List.all_eq_false.1 h
  exact List.all_eq_false.2 ⟨x, List.mem_of_mem_take hx, hp⟩
theorem alikeX_none {b : List At} {x : At} (h : b.any (nameP x.name) = false) : alikeX b x = false := by
  unfold alikeX
  rw [List.find?_eq_none.2 (fun y hy => by simpa using List.any_eq_false.1 h y hy)]
theorem alikeX_some {b : List At} {x y : At} (h : b.find? (nameP x.name) = some y) : alikeX b x = (y.val.toList == x.val.toList) := by unfold alikeX; rw [h]

/-! ### alike is alike for all names: an equivalence -/
theorem toList_inj {s t : ByteArray} (h : (s.toList == t.toList) = true) : s = t := by
  rw [beq_iff_eq, Lib.toList_data, Lib.toList_data] at h
  exact ByteArray.ext (Array.toList_inj.1 h)
theorem nameP_iff {s : ByteArray} {x : At} : nameP s x = true ↔ x.name = s := ⟨toList_inj, fun h => by unfold nameP; rw [h]; exact beq_self_eq_true _⟩
def valA (l : List At) (s : ByteArray) : Option ByteArray := (l.find? (nameP s)).map At.val
theorem valA_add (l : List At) (a : At) (s : ByteArray) : valA (addA l a) s = if l.any (nameP s) = true then valA l s else if nameP s a = true then some a.val else none := by
  unfold valA addA
  by_cases h : l.any (nameP a.name) = true
  · rw [if_pos h]
    by_cases h2 : l.any (nameP s) = true
    · rw [if_pos h2]
    · have h3 : ¬ nameP s a = true := fun e => h2 (by rw [← nameP_iff.1 e]; exact h)
      rw [if_neg h2, if_neg h3, List.find?_eq_none.2 (fun y hy => by
        have := List.any_eq_false.1 (by simpa using h2) y hy; simpa using this)]; rfl
  · rw [if_neg h, List.find?_append]
    by_cases h2 : l.any (nameP s) = true
    · rw [if_pos h2]
      obtain ⟨_, x, _, _, _, hf⟩ := findA_some h2
      rw [hf]; rfl
    · rw [if_neg h2, List.find?_eq_none.2 (fun y hy => by
        have := List.any_eq_false.1 (by simpa using h2) y hy; simpa using this)]
      by_cases h3 : nameP s a = true
      · rw [if_pos h3]; simp [h3]
      · rw [if_neg h3]; simp [h3]
theorem valA_isSome (l : List At) (s : ByteArray) : (valA l s).isSome = l.any (nameP s) := by
  unfold valA
  cases h : l.any (nameP s) with
  | true => obtain ⟨_, x, _, _, _, hf⟩ := findA_some h; rw [hf]; rfl
  | false => rw [List.find?_eq_none.2 (fun y hy => by simpa using List.any_eq_false.1 h y hy)]; rfl
theorem valA_more (l m : List At) (s : ByteArray) : valA (moreA l m) s = (valA l s).or (valA m s) := by
  induction m generalizing l with
  | nil => unfold moreA; simp [valA]
  | cons a m ih =>
    have e : moreA l (a :: m) = moreA (addA l a) m := rfl
    rw [e, ih, valA_add]
    have hc : valA (a :: m) s = if nameP s a = true then some a.val else valA m s := by
      unfold valA; rw [List.find?_cons]; cases nameP s a <;> simp
    rw [hc, ← valA_isSome]
    cases valA l s with
    | some v => simp
    | none => cases nameP s a <;> simp
theorem valA_uniq (l : List At) (s : ByteArray) : valA (uniqA l) s = valA l s := by unfold uniqA; rw [valA_more]; simp [valA]
def NoDup (l : List At) : Prop := l.Pairwise (fun x y => x.name ≠ y.name)
theorem addA_nodup {l : List At} (a : At) (h : NoDup l) : NoDup (addA l a) := by
  unfold addA
  split
  · exact h
  · rename_i hn
    unfold NoDup
    rw [List.pairwise_append]
    refine ⟨h, by simp, fun x hx y hy => ?_⟩
    simp at hy
    subst hy
    intro e
    exact hn (List.any_eq_true.2 ⟨x, hx, nameP_iff.2 e⟩)
theorem moreA_nodup {l : List At} (m : List At) (h : NoDup l) : NoDup (moreA l m) := by
  induction m generalizing l with
  | nil => exact h
  | cons a m ih => exact ih (addA_nodup a h)
theorem uniqA_nodup (l : List At) : NoDup (uniqA l) := moreA_nodup l List.Pairwise.nil
theorem valA_mem {l : List At} (h : NoDup l) {x : At} (hx : x ∈ l) : valA l x.name = some x.val := by
  induction l with
  | nil => cases hx
  | cons a l ih =>
    unfold valA
    rw [List.find?_cons]
    rcases List.mem_cons.1 hx with rfl | hx
    · rw [nameP_iff.2 rfl]; rfl
    · have ha := (List.pairwise_cons.1 h).1 x hx
      have : nameP x.name a = false := by
        cases hc : nameP x.name a with
        | true => exact absurd (nameP_iff.1 hc) ha
        | false => rfl
      rw [this]
      exact ih (List.pairwise_cons.1 h).2 hx
theorem mem_of_valA {l : List At} {s v : ByteArray} (h : valA l s = some v) : ⟨s, v⟩ ∈ l := by
  unfold valA at h
  cases hf : l.find? (nameP s) with
  | none => rw [hf] at h; cases h
  | some x =>
    rw [hf] at h
    have hv : x.val = v := by simpa using h
    have hn := nameP_iff.1 (List.find?_some hf)
    have hm := List.mem_of_find?_eq_some hf
    cases x
    simp only at hn hv
    subst hn hv
    exact hm
/-- Lists of no name twice, of one length, one in the other: the other in the one. -/
theorem sub_eq {a b : List At} (ha : NoDup a) (hlen : b.length ≤ a.length) (hs : ∀ x ∈ a, x ∈ b) : ∀ x ∈ b, x ∈ a := by
  have hna : a.Nodup := ha.imp (fun h e => h (by rw [e]))
  induction a generalizing b with
  | nil =>
    intro x hx
    have : b = [] := List.eq_nil_of_length_eq_zero (by simpa using hlen)
    subst this; cases hx
  | cons a0 a ih =>
    have h0 : a0 ∈ b := hs a0 List.mem_cons_self
    obtain ⟨b1, b2, rfl⟩ := List.append_of_mem h0
    have hna' := List.nodup_cons.1 hna
    have hin : ∀ x ∈ a, x ∈ b1 ++ b2 := fun x hx => by
      have := hs x (List.mem_cons_of_mem _ hx)
      simp only [List.mem_append, List.mem_cons] at this ⊢
      rcases this with h | rfl | h
      · exact .inl h
      · exact absurd hx hna'.1
      · exact .inr h
    have := ih (List.pairwise_cons.1 ha).2 (by simp at hlen ⊢; omega) hin hna'.2
    intro x hx
    simp only [List.mem_append, List.mem_cons] at hx
    rcases hx with h | rfl | h
    · exact List.mem_cons_of_mem _ (this x (List.mem_append_left _ h))
    · exact List.mem_cons_self
    · exact List.mem_cons_of_mem _ (this x (List.mem_append_right _ h))
theorem alikeA_iff (a b : List At) : alikeA a b = true ↔ ∀ s, valA a s = valA b s := by
  unfold alikeA
  have hx : ∀ x, alikeX (uniqA b) x = true ↔ valA b x.name = some x.val := fun x => by
    rw [← valA_uniq]
    unfold alikeX valA
    cases (uniqA b).find? (nameP x.name) with
    | none => simp
    | some y => exact ⟨fun h => by rw [Option.map_some, toList_inj h], fun h => by rw [Option.map_some, Option.some.injEq] at h; simp only [h]; exact beq_self_eq_true _⟩
  rw [Bool.and_eq_true, List.all_eq_true, decide_eq_true_eq]
  constructor
  · rintro ⟨h1, h2⟩ s
    have hsub : ∀ x ∈ uniqA a, x ∈ uniqA b := fun x hxm => by
      have := (hx x).1 (h1 x hxm)
      rw [← valA_uniq] at this
      exact mem_of_valA this
    have hsup := sub_eq (uniqA_nodup a) (by omega) hsub
    rw [← valA_uniq a, ← valA_uniq b]
    cases ha : valA (uniqA a) s with
    | some v => exact (valA_mem (uniqA_nodup b) (hsub _ (mem_of_valA ha))).symm
    | none =>
      cases hb : valA (uniqA b) s with
      | none => rfl
      | some v =>
        have := valA_mem (uniqA_nodup a) (hsup _ (mem_of_valA hb))
        rw [ha] at this; cases this
  · intro h
    have hab : ∀ x ∈ uniqA a, x ∈ uniqA b := fun x hxm => by
      have := valA_mem (uniqA_nodup a) hxm
      rw [valA_uniq, h, ← valA_uniq] at this
      exact mem_of_valA this
    have hba : ∀ x ∈ uniqA b, x ∈ uniqA a := fun x hxm => by
      have := valA_mem (uniqA_nodup b) hxm
      rw [valA_uniq, ← h, ← valA_uniq] at this
      exact mem_of_valA this
    refine ⟨fun x hxm => (hx x).2 ?_, ?_⟩
    · rw [← h, ← valA_uniq]; exact valA_mem (uniqA_nodup a) hxm
    · have l1 := (List.nodup_iff_pairwise_ne.2 ((uniqA_nodup a).imp (fun h e => h (by rw [e]))) : (uniqA a).Nodup)
      have l2 := (List.nodup_iff_pairwise_ne.2 ((uniqA_nodup b).imp (fun h e => h (by rw [e]))) : (uniqA b).Nodup)
      have p : (uniqA a).Perm (uniqA b) := (List.perm_ext_iff_of_nodup l1 l2).2 (fun x => ⟨hab x, hba x⟩)
      exact p.length_eq
theorem alike_refl (a : List At) : alikeA a a = true := (alikeA_iff a a).2 (fun _ => rfl)
theorem alike_symm {a b : List At} (h : alikeA a b = true) : alikeA b a = true := (alikeA_iff b a).2 (fun s => ((alikeA_iff a b).1 h s).symm)
theorem alike_trans {a b c : List At} (h : alikeA a b = true) (h2 : alikeA b c = true) : alikeA a c = true := (alikeA_iff a c).2 (fun s => ((alikeA_iff a b).1 h s).trans ((alikeA_iff b c).1 h2 s))
end Go.Proofs.YtojpedgfllgbcaaDoor
