/- Plain lists of bytes: the words in which the texts of this seat are told. No program in sight. -/
import Derived.Lib.IndexBytes
import Derived.Lib.Strings
import Derived.Below
import Derived.Deep.Draws
namespace Go.Proofs.Ytjghkiphfpeocaa
open Go.RowKit

/-- The bytes of a text, and back. -/
def B (s : ByteArray) : List UInt8 := s.data.toList
def S (l : List UInt8) : ByteArray := ⟨l.toArray⟩
@[simp] theorem B_S (l : List UInt8) : B (S l) = l := rfl
theorem S_B (s : ByteArray) : S (B s) = s := Lib.mk_data s
theorem size_B (s : ByteArray) : s.size = (B s).length := Lib.size_eq s
theorem size_S (l : List UInt8) : (S l).size = l.length := by rw [size_B]; rfl
theorem B_inj {s t : ByteArray} (h : B s = B t) : s = t := by rw [← S_B s, ← S_B t, h]
theorem B_drop (s : ByteArray) (a : Nat) : B (s.extract a s.size) = (B s).drop a := Lib.extract_to_end s a
theorem B_piece (s : ByteArray) (a b : Nat) : B (s.extract a b) = ((B s).drop a).take (b - a) := Lib.extract_data s a b
theorem size_extract_le (s : ByteArray) (a b : Nat) : (s.extract a b).size ≤ s.size := by
  rw [size_B, size_B, B_piece, List.length_take, List.length_drop]
  omega
theorem B_at (s : ByteArray) (i : Nat) (h : i < s.size) : (B s)[i]? = some s[i] := Lib.data_getElem? s i h
theorem B_get (s : ByteArray) (i : Nat) (h : i < s.size) (h' : i < (B s).length) : (B s)[i] = s[i] := by
  have := B_at s i h
  rw [List.getElem?_eq_getElem h'] at this
  exact Option.some.inj this
theorem drop_at (s : ByteArray) (i : Nat) (h : i < s.size) : (B s).drop i = s[i] :: (B s).drop (i + 1) := by
  have h' : i < (B s).length := by rw [← size_B]; exact h
  rw [List.drop_eq_getElem_cons h', B_get s i h h']
  rfl
theorem toList_B (s : ByteArray) : s.toList = B s := Lib.toList_data s

/-- A number clamped to 0 .. k. -/
def clampN (n : Int) (k : Nat) : Nat := (min (max n 0) (k : Int)).toNat
theorem clampN_le (n : Int) (k : Nat) : clampN n k ≤ k := by unfold clampN; omega
theorem clampN_nat (n k : Nat) (h : n ≤ k) : clampN (n : Int) k = n := by unfold clampN; omega

/-- The first place from i on at which p does not hold; the length, if there is none. -/
def stopL (p : UInt8 → Bool) (l : List UInt8) (i : Nat) : Nat := i + ((l.drop i).takeWhile p).length
theorem stopL_ge (p : UInt8 → Bool) (l : List UInt8) (i : Nat) : i ≤ stopL p l i := Nat.le_add_right _ _
theorem stopL_le (p : UInt8 → Bool) (l : List UInt8) (i : Nat) (h : i ≤ l.length) : stopL p l i ≤ l.length := by
  unfold stopL
  have : ((l.drop i).takeWhile p).length ≤ (l.drop i).length := (List.takeWhile_prefix p).length_le
  rw [List.length_drop] at this
  omega
theorem stopL_end (p : UInt8 → Bool) (l : List UInt8) (i : Nat) (h : l.length ≤ i) : stopL p l i = i := by
  unfold stopL
  rw [List.drop_eq_nil_of_le h]
  simp
theorem stopL_step (p : UInt8 → Bool) (l : List UInt8) (i : Nat) (h : i < l.length) (hp : p l[i] = true) : stopL p l (i + 1) = stopL p l i := by
  unfold stopL
  rw [List.drop_eq_getElem_cons h, List.takeWhile_cons, if_pos hp]
  simp
  omega
theorem stopL_stop (p : UInt8 → Bool) (l : List UInt8) (i : Nat) (h : i < l.length) (hp : p l[i] = false) : stopL p l i = i := by
  unfold stopL
  rw [List.drop_eq_getElem_cons h, List.takeWhile_cons, if_neg (by simp [hp])]
  simp
/-- Induction on what is left. -/
theorem stopL_spec (p : UInt8 → Bool) (l : List UInt8) : ∀ (d i : Nat), l.length - i = d → i ≤ l.length →
    (∀ j, i ≤ j → (h : j < stopL p l i) → ∃ h' : j < l.length, p l[j] = true) ∧ (∀ h : stopL p l i < l.length, p l[stopL p l i] = false)
  | 0, i, hd, hi => by
    have he : i = l.length := by omega
    subst he
    rw [stopL_end p l _ (Nat.le_refl _)]
    exact ⟨fun j h1 h2 => absurd h2 (by omega), fun h => absurd h (by omega)⟩
  | d + 1, i, hd, hi => by
    have hlt : i < l.length := by omega
    cases hp : p l[i] with
    | true =>
      have ih := stopL_spec p l d (i + 1) (by omega) (by omega)
      rw [stopL_step p l i hlt hp] at ih
      refine ⟨fun j h1 h2 => ?_, ih.2⟩
      by_cases e : j = i
      · subst e; exact ⟨hlt, hp⟩
      · exact ih.1 j (by omega) h2
    | false =>
      simp only [stopL_stop p l i hlt hp]
      exact ⟨fun j h1 h2 => absurd h2 (by omega), fun _ => hp⟩
theorem stopL_mem (p : UInt8 → Bool) (l : List UInt8) (i j : Nat) (hi : i ≤ l.length) (h1 : i ≤ j) (h2 : j < stopL p l i) (h' : j < l.length) : p l[j] = true := by
  obtain ⟨_, h⟩ := (stopL_spec p l _ i rfl hi).1 j h1 h2
  exact h
theorem stopL_at (p : UInt8 → Bool) (l : List UInt8) (i : Nat) (hi : i ≤ l.length) (h : stopL p l i < l.length) : p l[stopL p l i] = false := (stopL_spec p l _ i rfl hi).2 h
theorem stopL_idem (p : UInt8 → Bool) (l : List UInt8) (i : Nat) (hi : i ≤ l.length) : stopL p l (stopL p l i) = stopL p l i := by
  rcases Nat.lt_or_ge (stopL p l i) l.length with h | h
  · exact stopL_stop p l _ h (stopL_at p l i hi h)
  · exact stopL_end p l _ h

theorem stopB_step (p : UInt8 → Bool) (s : ByteArray) (i : Nat) (h : i < s.size) (hp : p s[i] = true) : stopL p (B s) (i + 1) = stopL p (B s) i := by
  have h' : i < (B s).length := by rw [← size_B]; exact h
  exact stopL_step p (B s) i h' (by rw [B_get s i h h']; exact hp)
theorem stopB_stop (p : UInt8 → Bool) (s : ByteArray) (i : Nat) (h : i < s.size) (hp : p s[i] = false) : stopL p (B s) i = i := by
  have h' : i < (B s).length := by rw [← size_B]; exact h
  exact stopL_stop p (B s) i h' (by rw [B_get s i h h']; exact hp)
theorem stopB_end (p : UInt8 → Bool) (s : ByteArray) (i : Nat) (h : ¬ i < s.size) : stopL p (B s) i = i := stopL_end p _ _ (by rw [← size_B]; omega)

/-- The first place from i on at which sub stands; the length, if there is none. -/
def findL (l sub : List UInt8) (i : Nat) : Nat := if Lib.index (l.drop i) sub < 0 then l.length else i + (Lib.index (l.drop i) sub).toNat
theorem findL_ge (l sub : List UInt8) (i : Nat) (h : i ≤ l.length) : i ≤ findL l sub i := by unfold findL; split <;> omega
theorem findL_le (l sub : List UInt8) (i : Nat) (h : i ≤ l.length) : findL l sub i ≤ l.length := by
  unfold findL
  have := Lib.index_le (l.drop i) sub
  rw [List.length_drop] at this
  split <;> omega
theorem occ_drop (l sub : List UInt8) (i j : Nat) : Lib.occAt (l.drop i) sub j = Lib.occAt l sub (i + j) := by
  unfold Lib.occAt
  rw [List.drop_drop]
/-- What a search from i on comes to. -/
theorem findL_first (l sub : List UInt8) (i k : Nat) (h1 : i ≤ k) (h2 : k ≤ l.length) (ho : Lib.occAt l sub k = true) (hn : ∀ j, i ≤ j → j < k → Lib.occAt l sub j = false) : findL l sub i = k := by
  have hx : Lib.index (l.drop i) sub = ((k - i : Nat) : Int) :=
    Lib.index_first (by rw [List.length_drop]; omega) (by rw [occ_drop, show i + (k - i) = k by omega]; exact ho) (fun j hj => by rw [occ_drop]; exact hn _ (by omega) (by omega))
  unfold findL
  rw [hx, if_neg (by omega)]
  omega
theorem findL_none (l sub : List UInt8) (i : Nat) (hi : i ≤ l.length) (hn : ∀ j, i ≤ j → j ≤ l.length → Lib.occAt l sub j = false) : findL l sub i = l.length := by
  have hx : Lib.index (l.drop i) sub = -1 := Lib.index_none (fun j hj => by
    rw [occ_drop]
    rw [List.length_drop] at hj
    exact hn _ (by omega) (by omega))
  unfold findL
  rw [hx, if_pos (by omega)]
/-- The least place, or none. -/
theorem occ_cases (l sub : List UInt8) : ∀ (d i : Nat), l.length + 1 - i = d → i ≤ l.length + 1 →
    (∃ k, i ≤ k ∧ k ≤ l.length ∧ Lib.occAt l sub k = true ∧ ∀ j, i ≤ j → j < k → Lib.occAt l sub j = false) ∨ (∀ j, i ≤ j → j ≤ l.length → Lib.occAt l sub j = false)
  | 0, i, hd, hi => .inr fun j h1 h2 => absurd h2 (by omega)
  | d + 1, i, hd, hi => by
    cases ho : Lib.occAt l sub i with
    | true => exact .inl ⟨i, Nat.le_refl _, by omega, ho, fun j h1 h2 => absurd h2 (by omega)⟩
    | false =>
      rcases occ_cases l sub d (i + 1) (by omega) (by omega) with ⟨k, h1, h2, h3, h4⟩ | h
      · refine .inl ⟨k, by omega, h2, h3, fun j hj hk => ?_⟩
        by_cases e : j = i
        · subst e; exact ho
        · exact h4 j (by omega) hk
      · refine .inr fun j hj hk => ?_
        by_cases e : j = i
        · subst e; exact ho
        · exact h j (by omega) hk
theorem findL_cases (l sub : List UInt8) (i : Nat) (hi : i ≤ l.length) :
    (Lib.occAt l sub (findL l sub i) = true ∨ findL l sub i = l.length) ∧ ∀ j, i ≤ j → j < findL l sub i → Lib.occAt l sub j = false := by
  rcases occ_cases l sub _ i rfl (by omega) with ⟨k, h1, h2, h3, h4⟩ | h
  · rw [findL_first l sub i k h1 h2 h3 h4]
    exact ⟨.inl h3, h4⟩
  · rw [findL_none l sub i hi h]
    exact ⟨.inr rfl, fun j h1 h2 => h j h1 (by omega)⟩

/-- A number brought into lo .. hi. -/
def withinI (n lo hi : Int) : Int := if n.tmod (hi - lo + 1) < 0 then lo + (n.tmod (hi - lo + 1) + hi - lo + 1) else lo + n.tmod (hi - lo + 1)
theorem withinI_bd (n lo hi : Int) (h : lo ≤ hi) : lo ≤ withinI n lo hi ∧ withinI n lo hi ≤ hi := by
  have h1 := Int.tmod_lt_of_pos n (show 0 < hi - lo + 1 by omega)
  have h2 := Int.lt_tmod_of_pos n (show 0 < hi - lo + 1 by omega)
  unfold withinI
  split <;> omega
/-- A text cut at n. -/
def headB (s : ByteArray) (n : Nat) : ByteArray := if n < s.size then s.extract 0 n else s
theorem headB_le (s : ByteArray) (n : Nat) : (headB s n).size ≤ n := by
  unfold headB
  split
  · rw [size_B, B_piece, List.length_take, List.length_drop]
    omega
  · omega
/-- Capitals as small letters. -/
def lowB (c : UInt8) : UInt8 := if 65 ≤ c.toNat ∧ c.toNat ≤ 90 then c + 32 else c
theorem lowB_toNat (c : UInt8) : (lowB c).toNat = if 65 ≤ c.toNat ∧ c.toNat ≤ 90 then c.toNat + 32 else c.toNat := by
  unfold lowB
  split
  · rw [UInt8.toNat_add]
    have : (32 : UInt8).toNat = 32 := rfl
    omega
  · rfl
def lowL (l : List UInt8) : List UInt8 := l.map lowB
theorem lowL_length (l : List UInt8) : (lowL l).length = l.length := by simp [lowL]
/-- Space; what ends a name. -/
def spaceB (c : UInt8) : Bool := c == 9 || c == 10 || c == 12 || c == 13 || c == 32
/-- Is a byte among these. -/
def hasB (l : List UInt8) (c : UInt8) : Bool := l.any fun b => b == c
theorem hasB_iff (l : List UInt8) (c : UInt8) : hasB l c = true ↔ c ∈ l := by simp [hasB]
theorem hasB_contains (l : List UInt8) (c : UInt8) : hasB l c = l.contains c := by rw [Bool.eq_iff_iff, hasB_iff]; simp
theorem indexByte_neg (l : List UInt8) (c : UInt8) : Lib.indexByte l c < 0 ↔ (!hasB l c) = true := by
  rw [hasB_contains]
  have hge := Lib.indexByte_ge l c
  constructor
  · intro h
    have hn := Lib.indexByte_none (l := l) (c := c) (by omega)
    simp only [Bool.not_eq_true', List.contains_eq_mem, decide_eq_false_iff_not]
    intro hm
    obtain ⟨k, hk, he⟩ := List.mem_iff_getElem.1 hm
    exact hn k (by rw [List.getElem?_eq_getElem hk, he])
  · intro h
    rcases Int.lt_or_le (Lib.indexByte l c) 0 with h1 | h1
    · exact h1
    · obtain ⟨o, ho⟩ : ∃ o : Nat, Lib.indexByte l c = o := ⟨(Lib.indexByte l c).toNat, by omega⟩
      have hs := (Lib.indexByte_some ho).1
      simp only [Bool.not_eq_true', List.contains_eq_mem, decide_eq_false_iff_not] at h
      exact absurd (List.mem_of_getElem? hs) h
def skipL (l : List UInt8) (i : Nat) : Nat := stopL spaceB l i
def untilL (l set : List UInt8) (i : Nat) : Nat := stopL (fun c => !hasB set c) l i
def nameL (l : List UInt8) (i : Nat) : Nat := untilL l [9, 10, 12, 13, 32, 47, 62] i
/-- Does a text stand at a place; so, folded. -/
def startsL (l sub : List UInt8) (i : Nat) : Bool := Lib.occAt l sub i
def foldL (l sub : List UInt8) (i : Nat) : Bool := Lib.occAt (lowL l) (lowL sub) i
theorem startsL_occ (l sub : List UInt8) (i : Nat) : startsL l sub i = Lib.occAt l sub i := rfl
/-- A piece stands where it was cut. -/
theorem occ_piece (l : List UInt8) (i j : Nat) : Lib.occAt l ((l.drop i).take (j - i)) i = true := by
  unfold Lib.occAt
  rw [List.isPrefixOf_iff_prefix]
  exact List.take_prefix _ _
theorem lowL_drop (l : List UInt8) (i : Nat) : (lowL l).drop i = lowL (l.drop i) := by simp [lowL]
theorem fold_of_low (l sub sub' : List UInt8) (i : Nat) (h : lowL sub = lowL sub') : foldL l sub i = foldL l sub' i := by unfold foldL; rw [h]
theorem fold_piece (l : List UInt8) (i j : Nat) : foldL l ((l.drop i).take (j - i)) i = true := by
  unfold foldL Lib.occAt
  rw [List.isPrefixOf_iff_prefix, lowL_drop]
  unfold lowL
  rw [List.map_take]
  exact List.take_prefix _ _
/-- Small letters as capitals. -/
def upB (c : UInt8) : UInt8 := if 97 ≤ c.toNat ∧ c.toNat ≤ 122 then c - 32 else c
theorem upB_toNat (c : UInt8) : (upB c).toNat = if 97 ≤ c.toNat ∧ c.toNat ≤ 122 then c.toNat - 32 else c.toNat := by
  unfold upB
  split
  · rw [UInt8.toNat_sub_of_le]
    · rfl
    · rw [UInt8.le_iff_toNat_le]
      have : (32 : UInt8).toNat = 32 := rfl
      omega
  · rfl
def upL (l : List UInt8) : List UInt8 := l.map upB
theorem lowB_upB (c : UInt8) : lowB (upB c) = lowB c := by
  have h1 := lowB_toNat (upB c)
  have h2 := lowB_toNat c
  have h3 := upB_toNat c
  apply UInt8.toNat_inj.1
  rw [h1, h2, h3]
  repeat' split
  all_goals omega
theorem low_up (l : List UInt8) : lowL (upL l) = lowL l := by
  unfold lowL upL
  rw [List.map_map]
  congr 1
  funext c
  exact lowB_upB c
theorem upL_length (l : List UInt8) : (upL l).length = l.length := by simp [upL]
/-- Texts of the length of a piece stand where it was cut just if they are it. -/
theorem occ_eq (l sub : List UInt8) (i j : Nat) (hl : sub.length = ((l.drop i).take (j - i)).length) : startsL l sub i = (sub == (l.drop i).take (j - i)) := by
  rw [startsL_occ]
  unfold Lib.occAt
  rw [Bool.eq_iff_iff, List.isPrefixOf_iff_prefix, beq_iff_eq]
  constructor
  · intro h
    rw [List.prefix_iff_eq_take] at h
    have hp : (l.drop i).take (j - i) <+: l.drop i := List.take_prefix _ _
    rw [List.prefix_iff_eq_take] at hp
    rw [h, hp, hl]
  · rintro rfl
    exact List.take_prefix _ _
end Go.Proofs.Ytjghkiphfpeocaa
