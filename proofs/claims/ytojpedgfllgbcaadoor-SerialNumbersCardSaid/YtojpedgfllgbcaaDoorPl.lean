/- MarkL, RefL, ReadL, UtfL, TagL, Alike, RightL, PlainL. -/
import Derived.Test.YtojpedgfllgbcaaDoorBase
import Derived.Lib.Strings
import Derived.Laws.Runes
import Derived.Laws.Cover4
import Derived.Laws.IdiomStrings
import Derived.Laws.RangeAny
import Derived.KernelRfl
/- Marks (comments, doctypes and the rest), as plain functions of lists of bytes. No program in sight. -/
namespace Go.Proofs.YtojpedgfllgbcaaDoor

/-- A token without attributes. -/
structure Tm where
  kind : Int
  name : List UInt8
  text : List UInt8
def noTm : Tm := ⟨0, [], []⟩
abbrev Mk := Tm × Int × Bool
/-- The piece of a text between two places. -/
def pieceL (l : List UInt8) (i j : Nat) : List UInt8 := (l.drop i).take (j - i)
theorem pieceL_len (l : List UInt8) (i j : Nat) (h : i ≤ j) (hj : j ≤ l.length) : (pieceL l i j).length = j - i := by
  unfold pieceL
  rw [List.length_take, List.length_drop]
  omega
def endsL (l x : List UInt8) : Bool := x.isSuffixOf l
/-- A comment's end that was begun, taken away. -/
def cutEnd (t : List UInt8) : List UInt8 :=
  if endsL t [45, 45, 33] = true then t.take (t.length - 3) else if endsL t [45, 45] = true then t.take (t.length - 2) else if endsL t [45] = true then t.take (t.length - 1) else t
def endA : List UInt8 := [45, 45, 62]
def endB : List UInt8 := [45, 45, 33, 62]
def commentM (l : List UInt8) (a : Nat) : Mk :=
  if startsL l [62] a = true then (⟨5, [], []⟩, ((a + 1 : Nat) : Int), true)
  else if startsL l [45, 62] a = true then (⟨5, [], []⟩, ((a + 2 : Nat) : Int), true)
  else if findL l endA a < findL l endB a then (⟨5, [], pieceL l a (findL l endA a)⟩, ((findL l endA a + 3 : Nat) : Int), true)
  else if findL l endB a < findL l endA a then (⟨5, [], pieceL l a (findL l endB a)⟩, ((findL l endB a + 4 : Nat) : Int), true)
  else (⟨5, [], cutEnd (l.drop a)⟩, (l.length : Int), true)
def behindL (l : List UInt8) (a : Nat) : Nat := min (findL l [62] a + 1) l.length
def rubbishM (l : List UInt8) (a : Nat) : Mk := (⟨5, [], pieceL l a (findL l [62] a)⟩, (behindL l a : Int), true)
def endD : List UInt8 := [9, 10, 12, 13, 32, 62]
def doctypeM (l : List UInt8) (a : Nat) : Mk :=
  (⟨1, lowL (pieceL l (skipL l a) (untilL l endD (skipL l a))), []⟩, (behindL l (untilL l endD (skipL l a)) : Int), true)
def endC : List UInt8 := [93, 93, 62]
def dataM (l : List UInt8) (a : Nat) : Mk := (if findL l endC a = a then noTm else ⟨4, [], pieceL l a (findL l endC a)⟩, ((min (findL l endC a + 3) l.length : Nat) : Int), true)
def letterB (c : UInt8) : Bool := (decide (97 ≤ c.toNat) && decide (c.toNat ≤ 122)) || (decide (65 ≤ c.toNat) && decide (c.toNat ≤ 90))
def beginA : List UInt8 := [60, 33, 45, 45]
def wordD : List UInt8 := [100, 111, 99, 116, 121, 112, 101]
def beginD : List UInt8 := 60 :: 33 :: wordD
def beginC : List UInt8 := [60, 33, 91, 67, 68, 65, 84, 65, 91]
/-- Is what stands at a place no letter (and not the end)? -/
def noLetterAt (l : List UInt8) (i : Nat) : Bool := match l[i]? with
  | some c => !letterB c
  | none => false
def readM (l : List UInt8) (at_ : Int) (foreign : Bool) : Mk :=
  if at_ < 0 ∨ (l.length : Int) ≤ at_ then (noTm, at_, false)
  else if startsL l beginA at_.toNat = true then commentM l (at_.toNat + 4)
  else if foldL l beginD at_.toNat = true then doctypeM l (at_.toNat + 9)
  else if (foreign && startsL l beginC at_.toNat) = true then dataM l (at_.toNat + 9)
  else if startsL l [60, 33] at_.toNat = true then rubbishM l (at_.toNat + 2)
  else if startsL l [60, 63] at_.toNat = true then rubbishM l (at_.toNat + 1)
  else if startsL l [60, 47, 62] at_.toNat = true then (noTm, ((at_.toNat + 3 : Nat) : Int), true)
  else if (startsL l [60, 47] at_.toNat && noLetterAt l (at_.toNat + 2)) = true then rubbishM l (at_.toNat + 2)
  else (noTm, at_, false)
theorem occ_not_b (l : List UInt8) (j : Nat) (h : Lib.occAt l endA j = true) : Lib.occAt l endB j = false := by
  unfold Lib.occAt at *
  generalize l.drop j = m at *
  rw [Bool.eq_false_iff]
  intro h2
  rw [List.isPrefixOf_iff_prefix] at h h2
  obtain ⟨a, rfl⟩ := h
  obtain ⟨b, hb⟩ := h2
  simp [endA, endB] at hb
end Go.Proofs.YtojpedgfllgbcaaDoor

/- References: what they stand for, in plain lists of bytes. No program in sight. -/
namespace Go.Proofs.YtojpedgfllgbcaaDoor
open Go.RowKit

def tabT : List (ByteArray × ByteArray) := [(⟨#[65, 77, 80]⟩, ⟨#[38]⟩), (⟨#[65, 77, 80, 59]⟩, ⟨#[38]⟩), (⟨#[67, 79, 80, 89]⟩, ⟨#[194, 169]⟩), (⟨#[67, 79, 80, 89, 59]⟩, ⟨#[194, 169]⟩), (⟨#[71, 84]⟩, ⟨#[62]⟩), (⟨#[71, 84, 59]⟩, ⟨#[62]⟩), (⟨#[76, 84]⟩, ⟨#[60]⟩), (⟨#[76, 84, 59]⟩, ⟨#[60]⟩), (⟨#[78, 111, 116, 69, 113, 117, 97, 108, 84, 105, 108, 100, 101, 59]⟩, ⟨#[226, 137, 130, 204, 184]⟩), (⟨#[81, 85, 79, 84]⟩, ⟨#[34]⟩), (⟨#[81, 85, 79, 84, 59]⟩, ⟨#[34]⟩), (⟨#[97, 109, 112]⟩, ⟨#[38]⟩), (⟨#[97, 109, 112, 59]⟩, ⟨#[38]⟩), (⟨#[97, 112, 111, 115, 59]⟩, ⟨#[39]⟩), (⟨#[99, 101, 110, 116, 59]⟩, ⟨#[194, 162]⟩), (⟨#[99, 111, 112, 121]⟩, ⟨#[194, 169]⟩), (⟨#[99, 111, 112, 121, 59]⟩, ⟨#[194, 169]⟩), (⟨#[100, 101, 103]⟩, ⟨#[194, 176]⟩), (⟨#[100, 101, 103, 59]⟩, ⟨#[194, 176]⟩), (⟨#[101, 97, 99, 117, 116, 101]⟩, ⟨#[195, 169]⟩), (⟨#[101, 97, 99, 117, 116, 101, 59]⟩, ⟨#[195, 169]⟩), (⟨#[103, 116]⟩, ⟨#[62]⟩), (⟨#[103, 116, 59]⟩, ⟨#[62]⟩), (⟨#[104, 101, 108, 108, 105, 112, 59]⟩, ⟨#[226, 128, 166]⟩), (⟨#[108, 97, 113, 117, 111]⟩, ⟨#[194, 171]⟩), (⟨#[108, 97, 113, 117, 111, 59]⟩, ⟨#[194, 171]⟩), (⟨#[108, 116]⟩, ⟨#[60]⟩), (⟨#[108, 116, 59]⟩, ⟨#[60]⟩), (⟨#[109, 100, 97, 115, 104, 59]⟩, ⟨#[226, 128, 148]⟩), (⟨#[110, 98, 115, 112]⟩, ⟨#[194, 160]⟩), (⟨#[110, 98, 115, 112, 59]⟩, ⟨#[194, 160]⟩), (⟨#[110, 100, 97, 115, 104, 59]⟩, ⟨#[226, 128, 147]⟩), (⟨#[110, 111, 116]⟩, ⟨#[194, 172]⟩), (⟨#[110, 111, 116, 59]⟩, ⟨#[194, 172]⟩), (⟨#[110, 111, 116, 105, 110, 59]⟩, ⟨#[226, 136, 137]⟩), (⟨#[111, 117, 109, 108]⟩, ⟨#[195, 182]⟩), (⟨#[111, 117, 109, 108, 59]⟩, ⟨#[195, 182]⟩), (⟨#[113, 117, 111, 116]⟩, ⟨#[34]⟩), (⟨#[113, 117, 111, 116, 59]⟩, ⟨#[34]⟩), (⟨#[114, 97, 113, 117, 111]⟩, ⟨#[194, 187]⟩), (⟨#[114, 97, 113, 117, 111, 59]⟩, ⟨#[194, 187]⟩), (⟨#[114, 101, 103]⟩, ⟨#[194, 174]⟩), (⟨#[114, 101, 103, 59]⟩, ⟨#[194, 174]⟩), (⟨#[115, 122, 108, 105, 103]⟩, ⟨#[195, 159]⟩), (⟨#[115, 122, 108, 105, 103, 59]⟩, ⟨#[195, 159]⟩), (⟨#[116, 105, 109, 101, 115]⟩, ⟨#[195, 151]⟩), (⟨#[116, 105, 109, 101, 115, 59]⟩, ⟨#[195, 151]⟩), (⟨#[117, 117, 109, 108]⟩, ⟨#[195, 188]⟩), (⟨#[117, 117, 109, 108, 59]⟩, ⟨#[195, 188]⟩), (⟨#[121, 101, 110]⟩, ⟨#[194, 165]⟩), (⟨#[121, 101, 110, 59]⟩, ⟨#[194, 165]⟩)]
def elderT : List Nat := [8364, 0, 8218, 402, 8222, 8230, 8224, 8225, 710, 8240, 352, 8249, 338, 0, 381, 0, 0, 8216, 8217, 8220, 8221, 8226, 8211, 8212, 732, 8482, 353, 8250, 339, 0, 382, 376]

/-! ### digits and numbers -/
def digitB (c : UInt8) : Bool := decide (48 ≤ c.toNat) && decide (c.toNat ≤ 57)
def hexB (c : UInt8) : Bool := digitB c || (decide (97 ≤ c.toNat) && decide (c.toNat ≤ 102)) || (decide (65 ≤ c.toNat) && decide (c.toNat ≤ 70))
/-- What a digit is worth. -/
def hexV (c : UInt8) : Nat := if 48 ≤ c.toNat ∧ c.toNat ≤ 57 then c.toNat - 48 else if 97 ≤ c.toNat ∧ c.toNat ≤ 102 then c.toNat - 87 else if 65 ≤ c.toNat ∧ c.toNat ≤ 70 then c.toNat - 55 else 0
theorem hexV_le (c : UInt8) : hexV c ≤ 15 := by unfold hexV; (repeat' split) <;> omega
def digB (base : Nat) (c : UInt8) : Bool := hexB c && decide (hexV c < base)
def numL (base : Nat) (l : List UInt8) : Nat := l.foldl (fun n c => n * base + hexV c) 0
theorem numL_snoc (base : Nat) (l : List UInt8) (c : UInt8) : numL base (l ++ [c]) = numL base l * base + hexV c := by
  unfold numL; rw [List.foldl_append]; rfl
def capN (n : Nat) : Nat := min n 1114112
theorem capN_le (n : Nat) : capN n ≤ 1114112 := by unfold capN; omega
theorem capN_step (n d base : Nat) (h : 1 ≤ base) : min (capN n * base + d) 1114112 = capN (n * base + d) := by
  unfold capN
  have h1 : n ≤ n * base := Nat.le_mul_of_pos_right _ h
  rcases Nat.lt_or_ge n 1114112 with h2 | h2
  · rw [Nat.min_eq_left (Nat.le_of_lt h2)]
  · rw [Nat.min_eq_right h2]
    have h3 : 1114112 ≤ 1114112 * base := Nat.le_mul_of_pos_right _ h
    omega

/-- The character of a number. -/
def utfN (n : Nat) : List UInt8 := B (Utf8.encode (n : Int))
def badL : List UInt8 := [239, 191, 189]
def numberB (n : Nat) : Bool := n == 0 || decide (1114111 < n) || (decide (55296 ≤ n) && decide (n ≤ 57343))
def elderN (n : Nat) : Nat := if 128 ≤ n ∧ n ≤ 159 then elderT.getD (n - 128) 0 else 0
def numberS (n : Nat) : List UInt8 := if numberB n = true then badL else if elderN n = 0 then utfN n else utfN (elderN n)
theorem numberS_big (n : Nat) (h : 1114111 < n) : numberS n = badL := by
  unfold numberS
  rw [if_pos]
  simp [numberB, h]
theorem numberS_cap (n : Nat) : numberS (capN n) = numberS n := by
  rcases Nat.lt_or_ge 1114111 n with h | h
  · rw [numberS_big n h, numberS_big _ (by unfold capN; omega)]
  · rw [show capN n = n by unfold capN; omega]

/-! ### names -/
def nameStep (s : List UInt8) (best p : ByteArray × ByteArray) : ByteArray × ByteArray := if best.1.size < p.1.size ∧ Lib.hasPrefix s (B p.1) = true then p else best
def namedR (s : List UInt8) : ByteArray × ByteArray := tabT.foldl (nameStep s) (⟨#[]⟩, ⟨#[]⟩)

/-! ### what a text that begins with an ampersand stands for, and how many bytes of it are read -/
def numS (pre base : Nat) (l : List UInt8) : List UInt8 × Nat :=
  let d := (l.drop pre).takeWhile (digB base)
  if d = [] then ([38], 1) else (numberS (numL base d), pre + d.length + (if (l.drop (pre + d.length)).head? = some 59 then 1 else 0))
def wordB (c : UInt8) : Bool := c == 61 || letterB c || digitB c
def nameS (attr : Bool) (l : List UInt8) : List UInt8 × Nat :=
  let r := namedR (l.drop 1)
  if r.1.size = 0 then ([38], 1) else
    if (attr && l[r.1.size]? != some 59 && (l[1 + r.1.size]?).any wordB) = true then (l.take (1 + r.1.size), 1 + r.1.size) else (B r.2, 1 + r.1.size)
def refS (attr : Bool) (l : List UInt8) : List UInt8 × Nat :=
  if foldL l [38, 35, 120] 0 = true then numS 3 16 l else if startsL l [38, 35] 0 = true then numS 2 10 l else nameS attr l
/-- Read. -/
def readR (l : List UInt8) (k : Int) (attr : Bool) : List UInt8 × Int :=
  if k < 0 then ([], k) else if (l.drop k.toNat).head? = some 38 then ((refS attr (l.drop k.toNat)).1, k + (refS attr (l.drop k.toNat)).2) else ([], k)
/-- All. -/
def allF (attr : Bool) : Nat → List UInt8 → List UInt8
  | 0, _ => []
  | _ + 1, [] => []
  | f + 1, c :: l => if c = 38 then (refS attr (c :: l)).1 ++ allF attr f ((c :: l).drop (refS attr (c :: l)).2) else c :: allF attr f l
def allR (attr : Bool) (l : List UInt8) : List UInt8 := allF attr l.length l

/-! ### sizes -/
theorem utfN_len (n : Nat) : 1 ≤ (utfN n).length ∧ (utfN n).length ≤ 4 := by
  unfold utfN
  rw [← size_B]
  refine ⟨?_, encode_size_le _⟩
  unfold Utf8.encode
  dsimp only
  repeat' split
  all_goals first | (show 1 ≤ 1; omega) | (show 1 ≤ 2; omega) | (show 1 ≤ 3; omega) | (show 1 ≤ 4; omega)
theorem numberS_len (n : Nat) : 1 ≤ (numberS n).length ∧ (numberS n).length ≤ 4 := by
  unfold numberS
  split
  · decide
  · split <;> exact utfN_len _
theorem tab_facts : ∀ p ∈ tabT, 2 ≤ p.1.size ∧ p.1.size ≤ 16 ∧ 1 ≤ p.2.size ∧ p.2.size ≤ 6 := by decide +kernel
theorem named_step (s : List UInt8) : ∀ (t : List (ByteArray × ByteArray)) (b : ByteArray × ByteArray), (t.foldl (nameStep s) b) = b ∨ ((t.foldl (nameStep s) b) ∈ t ∧ Lib.hasPrefix s (B (t.foldl (nameStep s) b).1) = true)
  | [], b => .inl rfl
  | p :: t, b => by
    simp only [List.foldl_cons]
    rcases named_step s t (nameStep s b p) with h | ⟨h, h'⟩
    · rw [h]
      unfold nameStep
      split
      · rename_i hc
        exact .inr ⟨List.mem_cons_self, hc.2⟩
      · exact .inl rfl
    · exact .inr ⟨List.mem_cons_of_mem _ h, h'⟩
theorem named_cases (s : List UInt8) : (namedR s = (⟨#[]⟩, ⟨#[]⟩)) ∨ (2 ≤ (namedR s).1.size ∧ (namedR s).1.size ≤ 16 ∧ 1 ≤ (namedR s).2.size ∧ (namedR s).2.size ≤ 6 ∧ (namedR s).1.size ≤ s.length) := by
  rcases named_step s tabT (⟨#[]⟩, ⟨#[]⟩) with h | ⟨h, h'⟩
  · exact .inl h
  · refine .inr ?_
    obtain ⟨h1, h2, h3, h4⟩ := tab_facts _ h
    refine ⟨h1, h2, h3, h4, ?_⟩
    rw [size_B]
    exact (List.isPrefixOf_iff_prefix.1 h').length_le
theorem named_size (s : List UInt8) : (namedR s).1.size ≤ s.length ∧ (namedR s).1.size ≤ 16 ∧ (namedR s).2.size ≤ 6 := by
  rcases named_cases s with h | ⟨_, h2, _, h4, h5⟩
  · rw [h]; exact ⟨Nat.zero_le _, by show 0 ≤ 16; omega, by show 0 ≤ 6; omega⟩
  · exact ⟨h5, h2, h4⟩
theorem take_len (p : UInt8 → Bool) (l : List UInt8) (k : Nat) : ((l.drop k).takeWhile p).length ≤ l.length - k := by
  have := (List.takeWhile_prefix p (l := l.drop k)).length_le
  rw [List.length_drop] at this
  exact this
theorem numS_facts (pre base : Nat) (l : List UInt8) (h1 : 1 ≤ pre) (h2 : pre ≤ l.length) (h3 : 1 ≤ l.length) : 1 ≤ (numS pre base l).2 ∧ (numS pre base l).2 ≤ l.length ∧ 1 ≤ (numS pre base l).1.length ∧ (numS pre base l).1.length ≤ 6 * (numS pre base l).2 := by
  have ht := take_len (digB base) l pre
  unfold numS
  simp only
  split
  · exact ⟨Nat.le_refl _, h3, Nat.le_refl _, by show 1 ≤ 6; omega⟩
  · rename_i hd
    have hd1 : 1 ≤ ((l.drop pre).takeWhile (digB base)).length := by
      rcases Nat.eq_zero_or_pos ((l.drop pre).takeWhile (digB base)).length with h | h
      · exact absurd (List.eq_nil_of_length_eq_zero h) hd
      · exact h
    have hn := numberS_len (numL base ((l.drop pre).takeWhile (digB base)))
    have hs : (if (l.drop (pre + ((l.drop pre).takeWhile (digB base)).length)).head? = some 59 then 1 else 0) ≤ l.length - (pre + ((l.drop pre).takeWhile (digB base)).length) := by
      split
      · rename_i hh
        have : (l.drop (pre + ((l.drop pre).takeWhile (digB base)).length)) ≠ [] := by intro e; rw [e] at hh; cases hh
        have := List.length_pos_iff.2 this
        rw [List.length_drop] at this
        omega
      · omega
    refine ⟨by omega, ?_, hn.1, ?_⟩ <;> simp only <;> omega
theorem nameS_facts (attr : Bool) (l : List UInt8) (h3 : 1 ≤ l.length) : 1 ≤ (nameS attr l).2 ∧ (nameS attr l).2 ≤ l.length ∧ 1 ≤ (nameS attr l).1.length ∧ (nameS attr l).1.length ≤ 6 * (nameS attr l).2 := by
  unfold nameS
  simp only
  rcases named_cases (l.drop 1) with h | ⟨g1, g2, g3, g4, g5⟩
  · rw [h, if_pos (by rfl)]
    exact ⟨Nat.le_refl _, h3, Nat.le_refl _, by show 1 ≤ 6; omega⟩
  · rw [if_neg (by omega)]
    rw [List.length_drop] at g5
    rw [size_B] at g3 g4
    split
    · refine ⟨?_, ?_, ?_, ?_⟩ <;> simp only [List.length_take] <;> omega
    · refine ⟨?_, ?_, ?_, ?_⟩ <;> simp only <;> omega
theorem fold_starts {l sub : List UInt8} (h : foldL l sub 0 = true) : sub.length ≤ l.length := by
  unfold foldL Lib.occAt at h
  have := (List.isPrefixOf_iff_prefix.1 h).length_le
  simpa [lowL] using this
theorem starts_len0 {l sub : List UInt8} (h : startsL l sub 0 = true) : sub.length ≤ l.length := by
  unfold startsL Lib.occAt at h
  have := (List.isPrefixOf_iff_prefix.1 h).length_le
  simpa using this
theorem refS_facts (attr : Bool) (l : List UInt8) (h3 : 1 ≤ l.length) : 1 ≤ (refS attr l).2 ∧ (refS attr l).2 ≤ l.length ∧ 1 ≤ (refS attr l).1.length ∧ (refS attr l).1.length ≤ 6 * (refS attr l).2 := by
  unfold refS
  split
  · rename_i h
    exact numS_facts 3 16 l (by omega) (fold_starts h) h3
  · split
    · rename_i _ h
      exact numS_facts 2 10 l (by omega) (starts_len0 h) h3
    · exact nameS_facts attr l h3

/-! ### All -/
theorem allF_more (attr : Bool) : ∀ (f : Nat) (l : List UInt8), l.length ≤ f → ∀ g, l.length ≤ g → allF attr f l = allF attr g l
  | 0, l, h, g, hg => by
    obtain rfl : l = [] := List.eq_nil_of_length_eq_zero (by omega)
    cases g <;> rfl
  | f + 1, l, h, g, hg => by
    cases l with
    | nil => cases g <;> rfl
    | cons c l =>
      simp only [List.length_cons] at h hg
      obtain ⟨g, rfl⟩ : ∃ m, g = m + 1 := ⟨g - 1, by omega⟩
      simp only [allF]
      split
      · have := refS_facts attr (c :: l) (by simp)
        rw [allF_more attr f _ (by rw [List.length_drop, List.length_cons]; omega) g (by rw [List.length_drop, List.length_cons]; omega)]
      · rw [allF_more attr f l (by omega) g (by omega)]
theorem allR_nil (attr : Bool) : allR attr [] = [] := rfl
theorem allR_amp (attr : Bool) (l : List UInt8) : allR attr (38 :: l) = (refS attr (38 :: l)).1 ++ allR attr ((38 :: l).drop (refS attr (38 :: l)).2) := by
  have := refS_facts attr (38 :: l) (by simp)
  have e : allR attr (38 :: l) = (refS attr (38 :: l)).1 ++ allF attr l.length ((38 :: l).drop (refS attr (38 :: l)).2) := by
    unfold allR; simp only [List.length_cons, allF]; rw [if_pos trivial]
  rw [e, allF_more attr l.length _ (by rw [List.length_drop, List.length_cons]; omega) _ (Nat.le_refl _)]
  rfl
theorem allR_other (attr : Bool) (c : UInt8) (l : List UInt8) (h : c ≠ 38) : allR attr (c :: l) = c :: allR attr l := by
  unfold allR; simp only [List.length_cons, allF]; rw [if_neg h]
theorem allR_plain (attr : Bool) : ∀ (a l : List UInt8), (∀ c ∈ a, c ≠ 38) → allR attr (a ++ l) = a ++ allR attr l
  | [], l, _ => rfl
  | c :: a, l, h => by
    rw [List.cons_append, allR_other attr c _ (h c List.mem_cons_self), allR_plain attr a l (fun x hx => h x (List.mem_cons_of_mem _ hx))]
    rfl
theorem allR_len (attr : Bool) : ∀ (f : Nat) (l : List UInt8), l.length ≤ f → (allR attr l).length ≤ 6 * l.length
  | 0, l, h => by
    obtain rfl : l = [] := List.eq_nil_of_length_eq_zero (by omega)
    rw [allR_nil]; simp
  | f + 1, l, h => by
    cases l with
    | nil => rw [allR_nil]; simp
    | cons c l =>
      simp only [List.length_cons] at h
      by_cases hc : c = 38
      · subst hc
        have := refS_facts attr (38 :: l) (by simp)
        rw [allR_amp, List.length_append]
        have ih := allR_len attr f ((38 :: l).drop (refS attr (38 :: l)).2) (by rw [List.length_drop, List.length_cons]; omega)
        rw [List.length_drop] at ih
        simp only [List.length_cons] at *
        omega
      · rw [allR_other attr c l hc, List.length_cons, List.length_cons]
        have ih := allR_len attr f l (by omega)
        omega
/-- Where the next ampersand stands. -/
theorem find_byte (l : List UInt8) (c : UInt8) (k : Nat) (hk : k ≤ l.length) : findL l [c] k = stopL (fun x => x != c) l k := by
  have h1 := stopL_ge (fun x => x != c) l k
  have h2 := stopL_le (fun x => x != c) l k hk
  have ho : ∀ j, (h : j < l.length) → Lib.occAt l [c] j = (l[j] == c) := fun j h => by
    unfold Lib.occAt
    rw [List.drop_eq_getElem_cons h]
    show (c == l[j] && List.isPrefixOf [] _) = _
    rw [show List.isPrefixOf [] (l.drop (j + 1)) = true from rfl, Bool.and_true, Bool.eq_iff_iff]
    simp only [beq_iff_eq]
    exact eq_comm
  have hn : ∀ j, k ≤ j → j < stopL (fun x => x != c) l k → Lib.occAt l [c] j = false := fun j h3 h4 => by
    have := stopL_mem (fun x => x != c) l k j hk h3 h4 (by omega)
    rw [ho j (by omega)]
    simpa [bne] using this
  rcases Nat.lt_or_ge (stopL (fun x => x != c) l k) l.length with h | h
  · refine findL_first l [c] k _ h1 h2 ?_ hn
    have := stopL_at (fun x => x != c) l k hk h
    rw [ho _ h]
    simpa [bne] using this
  · have he : stopL (fun x => x != c) l k = l.length := by omega
    rw [he]
    refine findL_none l [c] k hk (fun j h3 h4 => ?_)
    rcases Nat.lt_or_ge j l.length with h5 | h5
    · exact hn j h3 (by omega)
    · unfold Lib.occAt
      rw [List.drop_eq_nil_of_le h5]
      rfl
theorem piece_stop (p : UInt8 → Bool) (l : List UInt8) (k : Nat) : pieceL l k (stopL p l k) = (l.drop k).takeWhile p := by
  unfold pieceL stopL
  rw [show k + ((l.drop k).takeWhile p).length - k = ((l.drop k).takeWhile p).length by omega]
  exact (List.prefix_iff_eq_take.1 (List.takeWhile_prefix p)).symm
theorem drop_piece (l : List UInt8) (k j : Nat) (h : k ≤ j) : l.drop k = pieceL l k j ++ l.drop j := by
  unfold pieceL
  have : l.drop j = (l.drop k).drop (j - k) := by rw [List.drop_drop]; congr 1; omega
  rw [this, List.take_append_drop]
/-- One round of All: what stands ahead of the next ampersand, and the reference. -/
theorem allR_round (attr : Bool) (l : List UInt8) (k : Nat) (hk : k ≤ l.length) : allR attr (l.drop k) = pieceL l k (findL l [38] k) ++ allR attr (l.drop (findL l [38] k)) := by
  rw [find_byte l 38 k hk]
  rw [drop_piece l k (stopL (fun x => x != 38) l k) (stopL_ge _ _ _), allR_plain]
  intro c hc
  rw [piece_stop] at hc
  have := List.all_eq_true.1 (List.all_takeWhile (p := fun x => x != (38 : UInt8)) (l := l.drop k)) c hc
  simpa using this
end Go.Proofs.YtojpedgfllgbcaaDoor

/- What Read answers, by places: plain lists. No program in sight. -/
namespace Go.Proofs.YtojpedgfllgbcaaDoor
open Go.RowKit

theorem fold_drop (l sub : List UInt8) (k : Nat) : foldL l sub k = foldL (l.drop k) sub 0 := by
  unfold foldL
  rw [← lowL_drop, occ_drop]
  rfl
theorem starts_drop (l sub : List UInt8) (k : Nat) : startsL l sub k = startsL (l.drop k) sub 0 := by
  unfold startsL
  rw [occ_drop]
  rfl
theorem stop_drop (p : UInt8 → Bool) (l : List UInt8) (k a : Nat) : stopL p l (k + a) = k + a + (((l.drop k).drop a).takeWhile p).length := by
  unfold stopL
  rw [List.drop_drop]
theorem readR_at (attr : Bool) (l : List UInt8) (k : Nat) (h : (l.drop k).head? = some 38) : readR l (k : Int) attr = ((refS attr (l.drop k)).1, ((k + (refS attr (l.drop k)).2 : Nat) : Int)) := by
  unfold readR
  rw [if_neg (by omega), if_pos (by rw [Int.toNat_natCast]; exact h), Int.toNat_natCast]
  simp
theorem readR_no (attr : Bool) (l : List UInt8) (k : Int) (h : k < 0 ∨ (l.length : Int) ≤ k ∨ (0 ≤ k ∧ ∃ c, l[k.toNat]? = some c ∧ c ≠ 38)) : readR l k attr = ([], k) := by
  unfold readR
  rcases h with h | h | ⟨h, c, hc, hne⟩
  · rw [if_pos h]
  · by_cases h0 : k < 0
    · rw [if_pos h0]
    · rw [if_neg h0, if_neg]
      rw [List.drop_eq_nil_of_le (by omega)]
      simp
  · rw [if_neg (by omega), if_neg]
    rw [List.head?_drop, hc]
    intro e; cases e; exact hne rfl
theorem num_none {pre base : Nat} {l : List UInt8} {k : Nat} (h : stopL (digB base) l (k + pre) = k + pre) : numS pre base (l.drop k) = ([38], 1) := by
  rw [stop_drop] at h
  unfold numS
  simp only
  rw [if_pos (List.eq_nil_of_length_eq_zero (by omega))]
theorem num_some {pre base : Nat} {l : List UInt8} {k e : Nat} (h : stopL (digB base) l (k + pre) = e) (hne : e ≠ k + pre) :
    ∃ n : Nat, numS pre base (l.drop k) = (numberS (numL base (pieceL l (k + pre) e)), n) ∧ k + n = e + (if startsL l [59] e = true then 1 else 0) := by
  have hd : pieceL l (k + pre) e = (((l.drop k).drop pre).takeWhile (digB base)) := by rw [← h, piece_stop, List.drop_drop]
  rw [stop_drop] at h
  unfold numS
  simp only
  rw [if_neg (by intro e0; rw [e0] at h; simp at h; omega), hd]
  generalize ((l.drop k).drop pre).takeWhile (digB base) = d at *
  refine ⟨_, rfl, ?_⟩
  rw [List.drop_drop, ← Nat.add_assoc, ← Nat.add_assoc, h]
  have hs : (startsL l [59] e = true) = ((l.drop e).head? = some 59) := by
    unfold startsL Lib.occAt
    cases l.drop e with
    | nil => simp
    | cons c r =>
      show ((59 == c && List.isPrefixOf [] r) = true) = _
      rw [show List.isPrefixOf [] r = true from rfl, Bool.and_true]
      simp only [beq_iff_eq, List.head?_cons, Option.some.injEq, eq_iff_iff]
      exact eq_comm
  simp only [hs]
theorem refS_hex {attr : Bool} {l : List UInt8} {k : Nat} (h : foldL l [38, 35, 120] k = true) : refS attr (l.drop k) = numS 3 16 (l.drop k) := by
  rw [fold_drop] at h; unfold refS; rw [if_pos h]
theorem refS_ten {attr : Bool} {l : List UInt8} {k : Nat} (h : foldL l [38, 35, 120] k = false) (h2 : startsL l [38, 35] k = true) : refS attr (l.drop k) = numS 2 10 (l.drop k) := by
  rw [fold_drop] at h; rw [starts_drop] at h2; unfold refS; rw [if_neg (by rw [h]; decide), if_pos h2]
theorem refS_name {attr : Bool} {l : List UInt8} {k : Nat} (h : foldL l [38, 35, 120] k = false) (h2 : startsL l [38, 35] k = false) : refS attr (l.drop k) = nameS attr (l.drop k) := by
  rw [fold_drop] at h; rw [starts_drop] at h2; unfold refS; rw [if_neg (by rw [h]; decide), if_neg (by rw [h2]; decide)]
theorem name_none {attr : Bool} {l : List UInt8} {k : Nat} {r : ByteArray × ByteArray} (hr : namedR (l.drop (k + 1)) = r) (h : r.1.size = 0) : nameS attr (l.drop k) = ([38], 1) := by
  unfold nameS; simp only; rw [List.drop_drop, hr, if_pos h]
theorem name_plain {attr : Bool} {l : List UInt8} {k : Nat} {r : ByteArray × ByteArray} (hr : namedR (l.drop (k + 1)) = r) (h : r.1.size ≠ 0) (hc : (attr && l[k + r.1.size]? != some 59 && (l[k + 1 + r.1.size]?).any wordB) = false) : nameS attr (l.drop k) = (B r.2, 1 + r.1.size) := by
  unfold nameS; simp only
  rw [List.drop_drop, hr, if_neg h, List.getElem?_drop, List.getElem?_drop, ← Nat.add_assoc, if_neg (by rw [hc]; decide)]
theorem name_left {attr : Bool} {l : List UInt8} {k : Nat} {r : ByteArray × ByteArray} (hr : namedR (l.drop (k + 1)) = r) (h : r.1.size ≠ 0) (hc : (attr && l[k + r.1.size]? != some 59 && (l[k + 1 + r.1.size]?).any wordB) = true) : nameS attr (l.drop k) = (pieceL l k (k + 1 + r.1.size), 1 + r.1.size) := by
  unfold nameS; simp only
  rw [List.drop_drop, hr, if_neg h, List.getElem?_drop, List.getElem?_drop, ← Nat.add_assoc, if_pos hc]
  unfold pieceL
  rw [show k + 1 + r.1.size - k = 1 + r.1.size by omega]
end Go.Proofs.YtojpedgfllgbcaaDoor

/- UTF-8: what was encoded is decoded again. No program in sight. -/
namespace Go.Proofs.YtojpedgfllgbcaaDoor
open Go.RowKit

/-- A rune that is no half of a pair. -/
def goodR (c : Nat) : Prop := c < 55296 ∨ (57344 ≤ c ∧ c ≤ 1114111)
theorem good_valid {c : Nat} (h : goodR c) : Utf8.valid (c : Int) = true := by
  unfold goodR at h
  unfold Utf8.valid
  rw [Bool.or_eq_true, Bool.and_eq_true, Bool.and_eq_true]
  simp only [decide_eq_true_eq]
  omega
theorem enc_one {c : Nat} (h : c < 128) : Utf8.encode (c : Int) = ⟨#[UInt8.ofNat c]⟩ := by
  unfold Utf8.encode
  dsimp only
  rw [if_pos (good_valid (.inl (by omega))), Int.toNat_natCast, if_pos h]
theorem enc_two {c : Nat} (h1 : 128 ≤ c) (h : c < 2048) : Utf8.encode (c : Int) = ⟨#[UInt8.ofNat (192 + c / 64), UInt8.ofNat (128 + c % 64)]⟩ := by
  unfold Utf8.encode
  dsimp only
  rw [if_pos (good_valid (.inl (by omega))), Int.toNat_natCast, if_neg (by omega), if_pos h]
theorem enc_three {c : Nat} (hg : goodR c) (h1 : 2048 ≤ c) (h : c < 65536) : Utf8.encode (c : Int) = ⟨#[UInt8.ofNat (224 + c / 4096), UInt8.ofNat (128 + c / 64 % 64), UInt8.ofNat (128 + c % 64)]⟩ := by
  unfold Utf8.encode
  dsimp only
  rw [if_pos (good_valid hg), Int.toNat_natCast, if_neg (by omega), if_neg (by omega), if_pos h]
theorem enc_four {c : Nat} (hg : goodR c) (h1 : 65536 ≤ c) : Utf8.encode (c : Int) = ⟨#[UInt8.ofNat (240 + c / 262144), UInt8.ofNat (128 + c / 4096 % 64), UInt8.ofNat (128 + c / 64 % 64), UInt8.ofNat (128 + c % 64)]⟩ := by
  unfold Utf8.encode
  dsimp only
  rw [if_pos (good_valid hg), Int.toNat_natCast, if_neg (by omega), if_neg (by omega), if_neg (by omega)]
theorem ofNat_nat {n : Nat} (h : n < 256) : (UInt8.ofNat n).toNat = n := by
  rw [UInt8.toNat_ofNat']; omega
/-- What stands at a place, decoded. -/
theorem decode_of {s : ByteArray} {i c : Nat} (hg : goodR c) (hsz : i + (Utf8.encode (c : Int)).size ≤ s.size) (hb : ∀ k, k < (Utf8.encode (c : Int)).size → s.get! (i + k) = (Utf8.encode (c : Int)).get! k) :
    Utf8.decode s i = (c, (Utf8.encode (c : Int)).size) := by
  unfold goodR at hg
  rcases Nat.lt_or_ge c 128 with h1 | h1
  · rw [enc_one h1] at hb hsz ⊢
    have b0 : s.get! (i + 0) = UInt8.ofNat c := hb 0 (by show 0 < 1; omega)
    unfold Utf8.decode
    simp only [b0]
    rw [if_pos (by rw [ofNat_nat (by omega)]; omega), ofNat_nat (by omega)]
    rfl
  · rcases Nat.lt_or_ge c 2048 with h2 | h2
    · rw [enc_two h1 h2] at hb hsz ⊢
      have hsz : i + 2 ≤ s.size := hsz
      have b0 : s.get! (i + 0) = UInt8.ofNat (192 + c / 64) := hb 0 (by show 0 < 2; omega)
      have b1 : s.get! (i + 1) = UInt8.ofNat (128 + c % 64) := hb 1 (by show 1 < 2; omega)
      unfold Utf8.decode
      simp only [b0, b1]
      rw [ofNat_nat (by omega), ofNat_nat (by omega), if_neg (by omega), if_pos (by rw [Bool.and_eq_true, Bool.and_eq_true, beq_iff_eq, beq_iff_eq, decide_eq_true_eq]; omega)]
      rw [if_pos (by omega)]
      show (_, 2) = (_, 2)
      congr 1; omega
    · rcases Nat.lt_or_ge c 65536 with h3 | h3
      · rw [enc_three hg h2 h3] at hb hsz ⊢
        have hsz : i + 3 ≤ s.size := hsz
        have b0 : s.get! (i + 0) = UInt8.ofNat (224 + c / 4096) := hb 0 (by show 0 < 3; omega)
        have b1 : s.get! (i + 1) = UInt8.ofNat (128 + c / 64 % 64) := hb 1 (by show 1 < 3; omega)
        have b2 : s.get! (i + 2) = UInt8.ofNat (128 + c % 64) := hb 2 (by show 2 < 3; omega)
        have hc : (224 + c / 4096) % 16 * 4096 + (128 + c / 64 % 64) % 64 * 64 + (128 + c % 64) % 64 = c := by omega
        unfold Utf8.decode
        simp only [b0, b1, b2]
        rw [ofNat_nat (by omega), ofNat_nat (by omega), ofNat_nat (by omega), if_neg (by omega), if_neg (by rw [Bool.and_eq_true, beq_iff_eq]; omega), if_pos (by simp only [Bool.and_eq_true, beq_iff_eq, decide_eq_true_eq]; omega), hc]
        rw [if_pos (by rw [Bool.and_eq_true, good_valid hg, decide_eq_true_eq]; exact ⟨h2, rfl⟩)]
        rfl
      · rw [enc_four hg h3] at hb hsz ⊢
        have hsz : i + 4 ≤ s.size := hsz
        have b0 : s.get! (i + 0) = UInt8.ofNat (240 + c / 262144) := hb 0 (by show 0 < 4; omega)
        have b1 : s.get! (i + 1) = UInt8.ofNat (128 + c / 4096 % 64) := hb 1 (by show 1 < 4; omega)
        have b2 : s.get! (i + 2) = UInt8.ofNat (128 + c / 64 % 64) := hb 2 (by show 2 < 4; omega)
        have b3 : s.get! (i + 3) = UInt8.ofNat (128 + c % 64) := hb 3 (by show 3 < 4; omega)
        have hc : (240 + c / 262144) % 8 * 262144 + (128 + c / 4096 % 64) % 64 * 4096 + (128 + c / 64 % 64) % 64 * 64 + (128 + c % 64) % 64 = c := by omega
        unfold Utf8.decode
        simp only [b0, b1, b2, b3]
        rw [ofNat_nat (by omega), ofNat_nat (by omega), ofNat_nat (by omega), ofNat_nat (by omega), if_neg (by omega), if_neg (by rw [Bool.and_eq_true, beq_iff_eq]; omega), if_neg (by simp only [Bool.and_eq_true, beq_iff_eq]; omega), if_pos (by simp only [Bool.and_eq_true, beq_iff_eq, decide_eq_true_eq]; omega), hc]
        rw [if_pos (by rw [Bool.and_eq_true, good_valid hg, decide_eq_true_eq]; exact ⟨h3, rfl⟩)]
        rfl
theorem enc_size (c : Nat) : 1 ≤ (Utf8.encode (c : Int)).size := by
  unfold Utf8.encode
  dsimp only
  repeat' split
  all_goals first | (show 1 ≤ 1; omega) | (show 1 ≤ 2; omega) | (show 1 ≤ 3; omega) | (show 1 ≤ 4; omega)
theorem runes_end (s : ByteArray) (b : Nat) (acc : Array Value) : Conv.runesFrom s b s.size acc = acc := by
  cases b with
  | zero => unfold Conv.runesFrom; rfl
  | succ b => unfold Conv.runesFrom; rw [if_neg (by omega)]
theorem runes_step (s : ByteArray) (b i : Nat) (acc : Array Value) (h : i < s.size) : Conv.runesFrom s (b + 1) i acc = Conv.runesFrom s b (i + (Utf8.decode s i).2) (acc.push (.int .i32 (Int.ofNat (Utf8.decode s i).1))) := by
  conv => lhs; unfold Conv.runesFrom
  rw [if_pos h]
theorem runes_one (s : ByteArray) (c : Nat) (hd : Utf8.decode s 0 = (c, s.size)) (h1 : 1 ≤ s.size) : (Conv.runesFrom s s.size 0 #[]).size = 1 := by
  obtain ⟨m, hm⟩ : ∃ m, s.size = m + 1 := ⟨s.size - 1, by omega⟩
  have e : Conv.runesFrom s s.size 0 #[] = Conv.runesFrom s (m + 1) 0 #[] := by rw [hm]
  rw [e, runes_step s m 0 #[] (by omega), hd]
  simp only [Nat.zero_add]
  rw [runes_end, Array.size_push]
  rfl
theorem decode_whole {c : Nat} (hg : goodR c) : Utf8.decode (Utf8.encode (c : Int)) 0 = (c, (Utf8.encode (c : Int)).size) :=
  decode_of hg (Nat.le_of_eq (Nat.zero_add _)) (fun k _ => congrArg (fun j => (Utf8.encode (c : Int)).get! j) (Nat.zero_add k))
/-- One rune alone. -/
theorem one_rune {c : Nat} (hg : goodR c) : (Conv.runesFrom (Utf8.encode (c : Int)) (Utf8.encode (c : Int)).size 0 #[]).size = 1 := runes_one _ c (decode_whole hg) (enc_size c)
end Go.Proofs.YtojpedgfllgbcaaDoor

/- Tags: what is read, in plain lists of bytes. No program in sight. -/
namespace Go.Proofs.YtojpedgfllgbcaaDoor
open Go.RowKit

def endsT : List UInt8 := [9, 10, 12, 13, 32, 47, 62, 61]
def valEnd : List UInt8 := [9, 10, 12, 13, 32, 62]
/-- A value: its text, the place behind it, and how it ended (0: lost, 1: whole, 2: with the tag). -/
abbrev Vt := List UInt8 × Nat × Nat
def bareT (l : List UInt8) (k : Nat) : Vt :=
  if untilL l valEnd k = l.length then ([], l.length, 0) else (allR true (pieceL l k (untilL l valEnd k)), untilL l valEnd k, 1)
def quotT (l : List UInt8) (c : UInt8) (k : Nat) : Vt :=
  if findL l [c] (k + 1) = l.length then ([], l.length, 0) else (allR true (pieceL l (k + 1) (findL l [c] (k + 1))), findL l [c] (k + 1) + 1, 1)
def valueT (l : List UInt8) (k : Nat) : Vt :=
  match l[k]? with
  | none => ([], l.length, 0)
  | some c => if c = 34 ∨ c = 39 then quotT l c k else if c = 62 then ([], k + 1, 2) else bareT l k
def noAt : At := ⟨⟨#[]⟩, ⟨#[]⟩⟩
abbrev Ar := At × Nat × Nat
/-- An attribute, its name from k to t. -/
def attrV (l : List UInt8) (k t : Nat) : Ar :=
  if startsL l [61] (skipL l t) = true then
    (if (valueT l (skipL l (skipL l t + 1))).2.2 = 0 then (noAt, l.length, 0)
     else (⟨S (lowL (pieceL l k t)), S (valueT l (skipL l (skipL l t + 1))).1⟩, (valueT l (skipL l (skipL l t + 1))).2.1, (valueT l (skipL l (skipL l t + 1))).2.2))
  else (⟨S (lowL (pieceL l k t)), ⟨#[]⟩⟩, skipL l t, 1)
def nameEnd (l : List UInt8) (k : Nat) : Nat := untilL l endsT (min (k + 1) l.length)
def attrT (l : List UInt8) (k : Nat) : Ar := if nameEnd l k = l.length then (noAt, l.length, 0) else attrV l k (nameEnd l k)

/-- What stands behind a tag's name: attributes, whether it closes itself, and the place behind the tag; none: it has no end. -/
abbrev Rt := Option (List At × Bool × Nat)
def restF : Nat → List UInt8 → Nat → List At → Bool → Rt
  | 0, _, _, _, _ => none
  | f + 1, l, k, al, sf =>
    match l[skipL l k]? with
    | none => none
    | some c =>
      if c = 62 then some (al, sf, skipL l k + 1)
      else if c = 47 then (if l[skipL l k + 1]? = some 62 then some (al, true, skipL l k + 2) else restF f l (skipL l k + 1) al sf)
      else if (attrT l (skipL l k)).2.2 = 0 then none
      else if (attrT l (skipL l k)).2.2 = 2 then some (addA al (attrT l (skipL l k)).1, sf, (attrT l (skipL l k)).2.1)
      else restF f l (attrT l (skipL l k)).2.1 (addA al (attrT l (skipL l k)).1) sf
def restT (l : List UInt8) (k : Nat) (al : List At) (sf : Bool) : Rt := restF (l.length + 1 - k) l k al sf

/-! ### sizes -/
theorem find_bd (l sub : List UInt8) (k : Nat) (hk : k ≤ l.length) : k ≤ findL l sub k ∧ findL l sub k ≤ l.length := ⟨findL_ge l sub k hk, findL_le l sub k hk⟩
theorem until_bd (l set : List UInt8) (k : Nat) (hk : k ≤ l.length) : k ≤ untilL l set k ∧ untilL l set k ≤ l.length := ⟨stopL_ge _ _ _, stopL_le _ _ _ hk⟩
theorem skip_bd (l : List UInt8) (k : Nat) (hk : k ≤ l.length) : k ≤ skipL l k ∧ skipL l k ≤ l.length := ⟨stopL_ge _ _ _, stopL_le _ _ _ hk⟩
theorem lt_of_at {l : List UInt8} {k : Nat} {c : UInt8} (h : l[k]? = some c) : k < l.length := (List.getElem?_eq_some_iff.1 h).1
theorem starts_lt {l : List UInt8} {k : Nat} {c : UInt8} (h : startsL l [c] k = true) : k < l.length ∧ l[k]? = some c := by
  unfold startsL Lib.occAt at h
  cases hd : l.drop k with
  | nil => rw [hd] at h; cases h
  | cons a r =>
    have hlt : k < l.length := by
      rcases Nat.lt_or_ge k l.length with h | h
      · exact h
      · rw [List.drop_eq_nil_of_le h] at hd; cases hd
    refine ⟨hlt, ?_⟩
    rw [hd] at h
    have hca : c = a := by
      have : (c == a && List.isPrefixOf [] r) = true := h
      rw [Bool.and_eq_true, beq_iff_eq] at this
      exact this.1
    rw [← List.head?_drop, hd, hca]
    rfl
theorem value_bd (l : List UInt8) (k : Nat) (hk : k ≤ l.length) : k ≤ (valueT l k).2.1 ∧ (valueT l k).2.1 ≤ l.length ∧ (valueT l k).2.2 ≤ 2 ∧ (valueT l k).1.length ≤ 6 * l.length := by
  unfold valueT
  split
  · exact ⟨hk, Nat.le_refl _, by simp only; omega, Nat.zero_le _⟩
  · rename_i c hc
    have hlt := lt_of_at hc
    split
    · unfold quotT
      have h1 := find_bd l [c] (k + 1) (by omega)
      split
      · exact ⟨hk, Nat.le_refl _, by simp only; omega, Nat.zero_le _⟩
      · have h2 := allR_len true _ (pieceL l (k + 1) (findL l [c] (k + 1))) (Nat.le_refl _)
        rw [pieceL_len _ _ _ h1.1 h1.2] at h2
        refine ⟨?_, ?_, ?_, ?_⟩ <;> simp only <;> omega
    · split
      · refine ⟨?_, ?_, ?_, ?_⟩ <;> simp only [List.length_nil] <;> omega
      · unfold bareT
        have h1 := until_bd l valEnd k hk
        split
        · exact ⟨hk, Nat.le_refl _, by simp only; omega, Nat.zero_le _⟩
        · have h2 := allR_len true _ (pieceL l k (untilL l valEnd k)) (Nat.le_refl _)
          rw [pieceL_len _ _ _ h1.1 h1.2] at h2
          refine ⟨?_, ?_, ?_, ?_⟩ <;> simp only <;> omega
theorem nameEnd_bd (l : List UInt8) (k : Nat) (hk : k < l.length) : k + 1 ≤ nameEnd l k ∧ nameEnd l k ≤ l.length := by
  unfold nameEnd
  rw [Nat.min_eq_left (by omega)]
  exact until_bd l endsT (k + 1) (by omega)
theorem attr_bd (l : List UInt8) (k : Nat) (hk : k < l.length) : k + 1 ≤ (attrT l k).2.1 ∧ (attrT l k).2.1 ≤ l.length ∧ (attrT l k).2.2 ≤ 2 := by
  have h1 := nameEnd_bd l k hk
  unfold attrT
  split
  · refine ⟨?_, ?_, ?_⟩ <;> simp only <;> omega
  · have h2 := skip_bd l (nameEnd l k) h1.2
    unfold attrV
    split
    · rename_i hs
      have h3 := (starts_lt hs).1
      have h4 := skip_bd l (skipL l (nameEnd l k) + 1) (by omega)
      have h5 := value_bd l (skipL l (skipL l (nameEnd l k) + 1)) h4.2
      split
      · refine ⟨?_, ?_, ?_⟩ <;> simp only <;> omega
      · refine ⟨?_, ?_, ?_⟩ <;> simp only <;> omega
    · refine ⟨?_, ?_, ?_⟩ <;> simp only <;> omega
theorem restF_more (l : List UInt8) : ∀ (f g k : Nat) (al : List At) (sf : Bool), l.length < f + k → l.length < g + k → k ≤ l.length → restF f l k al sf = restF g l k al sf
  | 0, g, k, al, sf, h, _, hk => by omega
  | f + 1, g, k, al, sf, h, hg, hk => by
    obtain ⟨g, rfl⟩ : ∃ m, g = m + 1 := ⟨g - 1, by omega⟩
    have h1 := skip_bd l k hk
    unfold restF
    cases hc : l[skipL l k]? with
    | none => rfl
    | some c =>
      have hlt := lt_of_at hc
      have h2 := attr_bd l (skipL l k) hlt
      simp only
      rw [restF_more l f g (skipL l k + 1) al sf (by omega) (by omega) (by omega), restF_more l f g (attrT l (skipL l k)).2.1 (addA al (attrT l (skipL l k)).1) sf (by omega) (by omega) (by omega)]
theorem restT_step (l : List UInt8) (k : Nat) (al : List At) (sf : Bool) (hk : k ≤ l.length) : restT l k al sf =
    match l[skipL l k]? with
    | none => none
    | some c =>
      if c = 62 then some (al, sf, skipL l k + 1)
      else if c = 47 then (if l[skipL l k + 1]? = some 62 then some (al, true, skipL l k + 2) else restT l (skipL l k + 1) al sf)
      else if (attrT l (skipL l k)).2.2 = 0 then none
      else if (attrT l (skipL l k)).2.2 = 2 then some (addA al (attrT l (skipL l k)).1, sf, (attrT l (skipL l k)).2.1)
      else restT l (attrT l (skipL l k)).2.1 (addA al (attrT l (skipL l k)).1) sf := by
  have e : restT l k al sf = restF (l.length - k + 1) l k al sf := by unfold restT; rw [show l.length + 1 - k = l.length - k + 1 by omega]
  rw [e]
  have h1 := skip_bd l k hk
  conv => lhs; unfold restF
  cases hc : l[skipL l k]? with
  | none => rfl
  | some c =>
    have hlt := lt_of_at hc
    have h2 := attr_bd l (skipL l k) hlt
    simp only
    unfold restT
    rw [restF_more l (l.length - k) (l.length + 1 - (skipL l k + 1)) (skipL l k + 1) al sf (by omega) (by omega) (by omega),
      restF_more l (l.length - k) (l.length + 1 - (attrT l (skipL l k)).2.1) (attrT l (skipL l k)).2.1 (addA al (attrT l (skipL l k)).1) sf (by omega) (by omega) (by omega)]

/-- A tag. -/
structure Tg where
  kind : Int
  name : List UInt8
  attrs : List At
  self : Bool
def noTg : Tg := ⟨0, [], [], false⟩
abbrev Tr := Tg × Int × Bool
def endsAt (l : List UInt8) (k : Nat) : Bool := startsL l [60, 47] k
def fromT (l : List UInt8) (k : Nat) : Nat := if endsAt l k = true then k + 2 else k + 1
def tagT (l : List UInt8) (k : Nat) : Tr :=
  if (l[fromT l k]?).any letterB = true then
    match restT l (nameL l (fromT l k)) [] false with
    | none => (noTg, (l.length : Int), false)
    | some (al, sf, n) => (if endsAt l k = true then ⟨3, lowL (pieceL l (fromT l k) (nameL l (fromT l k))), [], false⟩ else ⟨2, lowL (pieceL l (fromT l k) (nameL l (fromT l k))), al, sf⟩, (n : Int), true)
  else (noTg, (k : Int), false)
def readT (l : List UInt8) (k : Int) : Tr :=
  if k < 0 then (noTg, k, false) else if (l.drop k.toNat).head? = some 60 then tagT l k.toNat else (noTg, k, false)
end Go.Proofs.YtojpedgfllgbcaaDoor

/- Two texts that begin alike. No program in sight. -/
namespace Go.Proofs.YtojpedgfllgbcaaDoor
open Go.RowKit

/-- Two texts that begin alike. -/
structure Alike (n : Nat) (a b : List UInt8) : Prop where
  ha : n ≤ a.length
  hb : n ≤ b.length
  eq : a.take n = b.take n
theorem Alike.at {n : Nat} {a b : List UInt8} (h : Alike n a b) (j : Nat) (hj : j < n) : a[j]? = b[j]? := by
  rw [← List.getElem?_take_of_lt hj, h.eq, List.getElem?_take_of_lt hj]
theorem occ_local (l sub : List UInt8) (n j : Nat) (h : j + sub.length ≤ n) : Lib.occAt l sub j = Lib.occAt (l.take n) sub j := by
  unfold Lib.occAt
  rw [List.drop_take, Bool.eq_iff_iff, List.isPrefixOf_iff_prefix, List.isPrefixOf_iff_prefix, List.prefix_take_iff]
  exact ⟨fun h' => ⟨h', by omega⟩, fun h' => h'.1⟩
theorem Alike.occ {n : Nat} {a b : List UInt8} (h : Alike n a b) (sub : List UInt8) (j : Nat) (hj : j + sub.length ≤ n) : Lib.occAt b sub j = Lib.occAt a sub j := by
  rw [occ_local b sub n j hj, occ_local a sub n j hj, h.eq]
theorem occ_get {l sub : List UInt8} {k i : Nat} (h : Lib.occAt l sub k = true) (hi : i < sub.length) : l[k + i]? = sub[i]? := by
  unfold Lib.occAt at h
  rw [List.isPrefixOf_iff_prefix] at h
  obtain ⟨r, hr⟩ := h
  rw [← List.getElem?_drop, ← hr, List.getElem?_append_left hi]
/-- Behind a sign that a text has not, it does not stand. -/
theorem occ_over {l sub : List UInt8} {n j : Nat} {c : UInt8} (hc : l[n]? = some c) (hs : c ∉ sub) (hj : j ≤ n) (hn : n < j + sub.length) : Lib.occAt l sub j = false := by
  cases h : Lib.occAt l sub j with
  | false => rfl
  | true =>
    have := occ_get h (show n - j < sub.length by omega)
    rw [show j + (n - j) = n by omega, hc] at this
    exact absurd (List.mem_of_getElem? this.symm) hs
theorem Alike.starts {n : Nat} {a b : List UInt8} (h : Alike n a b) (sub : List UInt8) (j : Nat) (hj : j < n) (hc : a[n - 1]? = some 62) (hs : (62 : UInt8) ∉ sub) : startsL b sub j = startsL a sub j := by
  rw [startsL_occ, startsL_occ]
  by_cases hl : j + sub.length ≤ n
  · exact h.occ sub j hl
  · rw [occ_over hc hs (by omega) (by omega), occ_over (by rw [← h.at (n - 1) (by omega)]; exact hc) hs (by omega) (by omega)]
theorem Alike.low {n : Nat} {a b : List UInt8} (h : Alike n a b) : Alike n (lowL a) (lowL b) :=
  ⟨by rw [lowL_length]; exact h.ha, by rw [lowL_length]; exact h.hb, by unfold lowL; rw [← List.map_take, ← List.map_take, h.eq]⟩
theorem Alike.fold {n : Nat} {a b : List UInt8} (h : Alike n a b) (sub : List UInt8) (j : Nat) (hj : j < n) (hc : a[n - 1]? = some 62) (hs : (62 : UInt8) ∉ lowL sub) : foldL b sub j = foldL a sub j := by
  unfold foldL
  exact h.low.starts (lowL sub) j hj (by unfold lowL; rw [List.getElem?_map, hc]; rfl) hs
theorem find_occ {l sub : List UInt8} {i : Nat} (hi : i ≤ l.length) (h : findL l sub i < l.length) : Lib.occAt l sub (findL l sub i) = true := by
  rcases (findL_cases l sub i hi).1 with h1 | h1
  · exact h1
  · omega
theorem Alike.find {n : Nat} {a b : List UInt8} (h : Alike n a b) (sub : List UInt8) (i : Nat) (hi : i ≤ a.length) (hf : findL a sub i < a.length) (hn : findL a sub i + sub.length ≤ n) : findL b sub i = findL a sub i := by
  have ho := find_occ hi hf
  have hge := findL_ge a sub i hi
  refine findL_first b sub i _ hge (by have := h.hb; omega) ?_ (fun j h1 h2 => ?_)
  · rw [h.occ sub _ hn]; exact ho
  · rw [h.occ sub j (by omega)]
    exact (findL_cases a sub i hi).2 j h1 h2
theorem stop_first (p : UInt8 → Bool) (l : List UInt8) : ∀ (d i k : Nat), k - i = d → i ≤ k → (∀ j, i ≤ j → j < k → ∃ c, l[j]? = some c ∧ p c = true) → (∃ c, l[k]? = some c ∧ p c = false) → stopL p l i = k
  | 0, i, k, hd, hik, _, ⟨c, hc, hp⟩ => by
    obtain rfl : i = k := by omega
    obtain ⟨hlt, e⟩ := List.getElem?_eq_some_iff.1 hc
    exact stopL_stop p l i hlt (by rw [e]; exact hp)
  | d + 1, i, k, hd, hik, hm, hk => by
    obtain ⟨c, hc, hp⟩ := hm i (Nat.le_refl _) (by omega)
    obtain ⟨hlt, e⟩ := List.getElem?_eq_some_iff.1 hc
    rw [← stopL_step p l i hlt (by rw [e]; exact hp)]
    exact stop_first p l d (i + 1) k (by omega) (by omega) (fun j h1 h2 => hm j (by omega) h2) hk
theorem Alike.stop {n : Nat} {a b : List UInt8} (h : Alike n a b) (p : UInt8 → Bool) (i : Nat) (hi : i ≤ a.length) (hs : stopL p a i < n) : stopL p b i = stopL p a i := by
  have hge := stopL_ge p a i
  have hna := h.ha
  refine stop_first p b _ i _ rfl hge (fun j h1 h2 => ?_) ?_
  · exact ⟨a[j]'(by omega), by rw [← h.at j (by omega), List.getElem?_eq_getElem], stopL_mem p a i j hi h1 h2 _⟩
  · exact ⟨a[stopL p a i]'(by omega), by rw [← h.at _ hs, List.getElem?_eq_getElem], stopL_at p a i hi (by omega)⟩
theorem Alike.piece {n : Nat} {a b : List UInt8} (h : Alike n a b) (i j : Nat) (hj : j ≤ n) : pieceL b i j = pieceL a i j := by
  unfold pieceL
  have e : ∀ l : List UInt8, (l.drop i).take (j - i) = ((l.take n).drop i).take (j - i) := fun l => by
    rw [List.drop_take, List.take_take, Nat.min_eq_left (by omega)]
  rw [e b, e a, h.eq]
end Go.Proofs.YtojpedgfllgbcaaDoor

/- A tag told is told the same with anything behind it; its name and its attributes are in order. No program in sight. -/
namespace Go.Proofs.YtojpedgfllgbcaaDoor
open Go.RowKit

/-! ### the place behind a tag -/
theorem get_of_eq {l : List UInt8} {k : Nat} (h : k < l.length) : ∃ c, l[k]? = some c := ⟨_, List.getElem?_eq_getElem h⟩
theorem value_two {l : List UInt8} {k : Nat} (h : (valueT l k).2.2 = 2) : l[k]? = some 62 ∧ (valueT l k).2.1 = k + 1 := by
  unfold valueT at h ⊢
  cases hc : l[k]? with
  | none => rw [hc] at h; simp at h
  | some c =>
    rw [hc] at h
    simp only at h ⊢
    by_cases h1 : c = 34 ∨ c = 39
    · rw [if_pos h1] at h; unfold quotT at h; split at h <;> simp at h
    · rw [if_neg h1] at h ⊢
      by_cases h2 : c = 62
      · rw [if_pos h2]; exact ⟨by rw [h2], rfl⟩
      · rw [if_neg h2] at h; unfold bareT at h; split at h <;> simp at h
theorem attr_two {l : List UInt8} {k : Nat} (h : (attrT l k).2.2 = 2) : l[(attrT l k).2.1 - 1]? = some 62 := by
  unfold attrT at h ⊢
  split at h
  · simp at h
  · rename_i h1
    rw [if_neg h1]
    unfold attrV at h ⊢
    split at h
    · rename_i h2
      rw [if_pos h2]
      split at h
      · simp at h
      · rename_i h3
        rw [if_neg h3]
        obtain ⟨e1, e2⟩ := value_two (k := skipL l (skipL l (nameEnd l k) + 1)) h
        simp only
        rw [e2, Nat.add_sub_cancel]
        exact e1
    · simp at h
theorem rest_end (l : List UInt8) : ∀ (f k : Nat) (al : List At) (sf : Bool) (al' : List At) (sf' : Bool) (n : Nat), k ≤ l.length → restF f l k al sf = some (al', sf', n) → skipL l k < n ∧ n ≤ l.length ∧ l[n - 1]? = some 62
  | 0, _, _, _, _, _, _, _, h => by unfold restF at h; cases h
  | f + 1, k, al, sf, al', sf', n, hk, h => by
    unfold restF at h
    have hs := skip_bd l k hk
    cases hc : l[skipL l k]? with
    | none => rw [hc] at h; cases h
    | some c =>
      have hlt := lt_of_at hc
      have hat := attr_bd l (skipL l k) hlt
      rw [hc] at h
      simp only at h
      split at h
      · rename_i h1
        obtain ⟨_, _, rfl⟩ : _ ∧ _ ∧ skipL l k + 1 = n := by simpa using h
        exact ⟨by omega, by omega, by rw [Nat.add_sub_cancel, hc, h1]⟩
      · split at h
        · split at h
          · rename_i h3
            obtain ⟨_, _, rfl⟩ : _ ∧ _ ∧ skipL l k + 2 = n := by simpa using h
            have := lt_of_at h3
            exact ⟨by omega, by omega, by rw [show skipL l k + 2 - 1 = skipL l k + 1 by omega, h3]⟩
          · have hi := rest_end l f (skipL l k + 1) al sf al' sf' n (by omega) h
            have hs2 := skip_bd l (skipL l k + 1) (by omega)
            exact ⟨by omega, hi.2⟩
        · split at h
          · cases h
          · split at h
            · rename_i h3
              obtain ⟨_, _, rfl⟩ : _ ∧ _ ∧ (attrT l (skipL l k)).2.1 = n := by simpa using h
              exact ⟨by omega, hat.2.1, attr_two h3⟩
            · have hi := rest_end l f _ _ sf al' sf' n hat.2.1 h
              have hs2 := skip_bd l _ hat.2.1
              exact ⟨by omega, hi.2⟩

/-! ### the same with anything behind it -/
theorem Alike.skip {n : Nat} {a b : List UInt8} (h : Alike n a b) (i : Nat) (hi : i ≤ a.length) (hs : skipL a i < n) : skipL b i = skipL a i := h.stop spaceB i hi hs
theorem Alike.until {n : Nat} {a b : List UInt8} (h : Alike n a b) (set : List UInt8) (i : Nat) (hi : i ≤ a.length) (hs : untilL a set i < n) : untilL b set i = untilL a set i := h.stop _ i hi hs
theorem Alike.one {n : Nat} {a b : List UInt8} (h : Alike n a b) (c : UInt8) (j : Nat) (hj : j < n) : startsL b [c] j = startsL a [c] j := h.occ [c] j (by simp; omega)
theorem value_same {n : Nat} {a b : List UInt8} (h : Alike n a b) (k : Nat) (hk : k ≤ a.length) (h0 : (valueT a k).2.2 ≠ 0) (hp : (valueT a k).2.1 ≤ n) (h1 : (valueT a k).2.2 = 1 → (valueT a k).2.1 < n) : k < n ∧ valueT b k = valueT a k := by
  have hbd := value_bd a k hk
  have hna := h.ha
  have hnb := h.hb
  have hkn : k < n := by
    rcases (show (valueT a k).2.2 = 1 ∨ (valueT a k).2.2 = 2 by omega) with e | e
    · have := h1 e; omega
    · have := (value_two e).2; omega
  refine ⟨hkn, ?_⟩
  unfold valueT at h0 hp h1 ⊢
  rw [← h.at k hkn]
  cases hc : a[k]? with
  | none => rw [hc] at h0; simp at h0
  | some c =>
    rw [hc] at h0 hp h1
    simp only at h0 hp h1 ⊢
    by_cases e1 : c = 34 ∨ c = 39
    · rw [if_pos e1] at h0 hp h1
      rw [if_pos e1, if_pos e1]
      unfold quotT at h0 hp h1 ⊢
      by_cases e2 : findL a [c] (k + 1) = a.length
      · rw [if_pos e2] at h0; simp at h0
      · rw [if_neg e2] at h0 hp h1
        simp only at hp h1
        have := findL_le a [c] (k + 1) (by omega)
        have hh := h.find [c] (k + 1) (by omega) (by omega) (by simpa using hp)
        rw [if_neg e2, hh, if_neg (by have := h1 trivial; omega), h.piece _ _ (by omega)]
    · rw [if_neg e1] at h0 hp h1
      rw [if_neg e1, if_neg e1]
      by_cases e2 : c = 62
      · rw [if_pos e2, if_pos e2]
      · rw [if_neg e2] at h0 hp h1
        rw [if_neg e2, if_neg e2]
        unfold bareT at h0 hp h1 ⊢
        by_cases e3 : untilL a valEnd k = a.length
        · rw [if_pos e3] at h0; simp at h0
        · rw [if_neg e3] at h0 hp h1
          have h1 := h1 rfl
          simp only at h1
          rw [if_neg e3, h.until valEnd k hk h1, if_neg (by omega), h.piece _ _ (by omega)]
theorem attr_same {n : Nat} {a b : List UInt8} (h : Alike n a b) (k : Nat) (hk : k < a.length) (h0 : (attrT a k).2.2 ≠ 0) (hp : (attrT a k).2.1 ≤ n) (h1 : (attrT a k).2.2 = 1 → (attrT a k).2.1 < n) : attrT b k = attrT a k := by
  have hna := h.ha
  have hnb := h.hb
  have hbd := nameEnd_bd a k hk
  unfold attrT at h0 hp h1 ⊢
  by_cases e1 : nameEnd a k = a.length
  · rw [if_pos e1] at h0; simp at h0
  · rw [if_neg e1] at h0 hp h1
    have hs := skip_bd a (nameEnd a k) hbd.2
    have hkey : skipL a (nameEnd a k) < n → nameEnd b k = nameEnd a k ∧ skipL b (nameEnd a k) = skipL a (nameEnd a k) ∧ pieceL b k (nameEnd a k) = pieceL a k (nameEnd a k) ∧ nameEnd a k ≠ b.length := by
      intro hlt
      refine ⟨?_, h.skip _ hbd.2 hlt, h.piece _ _ (by omega), by omega⟩
      unfold nameEnd at hbd hs hlt ⊢
      rw [Nat.min_eq_left (by omega)] at hbd hs hlt ⊢
      rw [Nat.min_eq_left (by omega)]
      exact h.until endsT (k + 1) (by omega) (by omega)
    unfold attrV at h0 hp h1 ⊢
    by_cases e2 : startsL a [61] (skipL a (nameEnd a k)) = true
    · rw [if_pos e2] at h0 hp h1
      have hlt := (starts_lt e2).1
      have hs2 := skip_bd a (skipL a (nameEnd a k) + 1) (by omega)
      by_cases e3 : (valueT a (skipL a (skipL a (nameEnd a k) + 1))).2.2 = 0
      · rw [if_pos e3] at h0; simp at h0
      · rw [if_neg e3] at h0 hp h1
        simp only at h0 hp h1
        obtain ⟨hkn, hv⟩ := value_same h _ hs2.2 h0 hp h1
        obtain ⟨q1, q2, q3, q4⟩ := hkey (by omega)
        rw [q1, if_neg q4, if_neg e1, q2, h.one 61 _ (by omega), if_pos e2, if_pos e2, h.skip _ (by omega) hkn, hv, q3, if_neg e3, if_neg e3]
    · rw [if_neg e2] at h0 hp h1
      have h1 := h1 rfl
      simp only at h1
      obtain ⟨q1, q2, q3, q4⟩ := hkey h1
      rw [q1, if_neg q4, if_neg e1, q2, h.one 61 _ (by omega), if_neg e2, if_neg e2, q3]
theorem rest_same {n : Nat} {a b : List UInt8} (h : Alike n a b) : ∀ (f g k : Nat) (al : List At) (sf : Bool) (al' : List At) (sf' : Bool), k ≤ a.length → b.length < g + k → restF f a k al sf = some (al', sf', n) → restF g b k al sf = some (al', sf', n)
  | 0, _, _, _, _, _, _, _, _, hr => by unfold restF at hr; cases hr
  | f + 1, g, k, al, sf, al', sf', hk, hg, hr => by
    have he := rest_end a (f + 1) k al sf al' sf' n hk hr
    have hnb := h.hb
    have hs := skip_bd a k hk
    obtain ⟨g, rfl⟩ : ∃ m, g = m + 1 := ⟨g - 1, by omega⟩
    unfold restF at hr ⊢
    rw [h.skip k hk he.1, ← h.at (skipL a k) he.1]
    cases hc : a[skipL a k]? with
    | none => rw [hc] at hr; cases hr
    | some c =>
      have hlt := lt_of_at hc
      have hat := attr_bd a (skipL a k) hlt
      rw [hc] at hr
      simp only at hr ⊢
      by_cases e1 : c = 62
      · rw [if_pos e1] at hr ⊢; exact hr
      · rw [if_neg e1] at hr ⊢
        by_cases e2 : c = 47
        · rw [if_pos e2] at hr ⊢
          have hn2 : skipL a k + 1 < n := by
            split at hr
            · obtain ⟨_, _, e⟩ : _ ∧ _ ∧ skipL a k + 2 = n := by simpa using hr
              omega
            · have h2 := rest_end a f _ al sf al' sf' n (by omega) hr
              have h3 := skip_bd a (skipL a k + 1) (by omega)
              omega
          rw [← h.at _ hn2]
          by_cases e3 : a[skipL a k + 1]? = some 62
          · rw [if_pos e3] at hr ⊢; exact hr
          · rw [if_neg e3] at hr ⊢
            exact rest_same h f g _ al sf al' sf' (by omega) (by omega) hr
        · rw [if_neg e2] at hr ⊢
          by_cases e3 : (attrT a (skipL a k)).2.2 = 0
          · rw [if_pos e3] at hr; cases hr
          · rw [if_neg e3] at hr
            by_cases e4 : (attrT a (skipL a k)).2.2 = 2
            · rw [if_pos e4] at hr
              have e5 : (attrT a (skipL a k)).2.1 = n := by
                obtain ⟨_, _, e⟩ : _ ∧ _ ∧ (attrT a (skipL a k)).2.1 = n := by simpa using hr
                exact e
              have e6 := attr_same h (skipL a k) hlt e3 (by omega) (by omega)
              rw [e6, if_neg e3, if_pos e4]; exact hr
            · rw [if_neg e4] at hr
              have h2 := rest_end a f _ _ sf al' sf' n hat.2.1 hr
              have h3 := skip_bd a (attrT a (skipL a k)).2.1 hat.2.1
              have e6 := attr_same h (skipL a k) hlt e3 (by omega) (by omega)
              rw [e6, if_neg e3, if_neg e4]
              exact rest_same h f g _ _ sf al' sf' hat.2.1 (by omega) hr
theorem tag_parts {l : List UInt8} (ht : (readT l 0).2.2 = true) : l[0]? = some 60 ∧ (l[fromT l 0]?).any letterB = true ∧
    ∃ al sf n, restT l (nameL l (fromT l 0)) [] false = some (al, sf, n) ∧ readT l 0 = (if endsAt l 0 = true then ⟨3, lowL (pieceL l (fromT l 0) (nameL l (fromT l 0))), [], false⟩ else ⟨2, lowL (pieceL l (fromT l 0) (nameL l (fromT l 0))), al, sf⟩, (n : Int), true) := by
  unfold readT at ht ⊢
  rw [if_neg (by decide)] at ht ⊢
  rw [show (0 : Int).toNat = 0 from rfl, List.drop_zero] at *
  by_cases h1 : l.head? = some 60
  · rw [if_pos h1] at ht ⊢
    rw [List.head?_eq_getElem?] at h1
    refine ⟨h1, ?_⟩
    unfold tagT at ht ⊢
    by_cases h2 : (l[fromT l 0]?).any letterB = true
    · rw [if_pos h2] at ht ⊢
      refine ⟨h2, ?_⟩
      cases hr : restT l (nameL l (fromT l 0)) [] false with
      | none => rw [hr] at ht; cases ht
      | some r => exact ⟨r.1, r.2.1, r.2.2, rfl, rfl⟩
    · rw [if_neg h2] at ht; cases ht
  · rw [if_neg h1] at ht; cases ht
theorem from_bd (l : List UInt8) : 1 ≤ fromT l 0 ∧ fromT l 0 ≤ 2 := by unfold fromT; split <;> omega
theorem any_at {l : List UInt8} {k : Nat} {p : UInt8 → Bool} (h : (l[k]?).any p = true) : ∃ c, l[k]? = some c ∧ p c = true := by
  cases hc : l[k]? with
  | none => rw [hc] at h; cases h
  | some c => rw [hc] at h; exact ⟨c, rfl, h⟩
def endsN : List UInt8 := [9, 10, 12, 13, 32, 47, 62]
theorem letter_end {c : UInt8} (h : letterB c = true) : hasB endsN c = false := by
  cases hb : hasB endsN c with
  | false => rfl
  | true =>
    rw [hasB_iff] at hb
    unfold letterB at h
    simp only [Bool.or_eq_true, Bool.and_eq_true, decide_eq_true_eq] at h
    simp only [endsN, List.mem_cons, List.not_mem_nil, or_false] at hb
    rcases hb with rfl | rfl | rfl | rfl | rfl | rfl | rfl <;> simp at h
theorem name_gt {l : List UInt8} (h : (l[fromT l 0]?).any letterB = true) : fromT l 0 + 1 ≤ nameL l (fromT l 0) := by
  obtain ⟨c, hc, hp⟩ := any_at h
  obtain ⟨hlt, e⟩ := List.getElem?_eq_some_iff.1 hc
  unfold nameL untilL
  rw [← stopL_step _ l _ hlt (by rw [e]; show (!hasB endsN c) = true; rw [letter_end hp]; rfl)]
  exact stopL_ge _ _ _
theorem tag_same {n : Nat} {a b : List UInt8} (h : Alike n a b) (ht : (readT a 0).2.2 = true) (hn : (readT a 0).2.1 = (n : Int)) : readT b 0 = readT a 0 := by
  obtain ⟨h1, h2, al, sf, m, h3, h4⟩ := tag_parts ht
  rw [h4] at hn
  obtain rfl : m = n := Int.ofNat.inj hn
  have hf := from_bd a
  have hg := name_gt h2
  have hle : fromT a 0 ≤ a.length := by obtain ⟨c, hc, _⟩ := any_at h2; have := lt_of_at hc; omega
  have hnl : nameL a (fromT a 0) ≤ a.length := stopL_le _ _ _ hle
  have he := rest_end a _ _ [] false al sf m hnl h3
  have hs := skip_bd a (nameL a (fromT a 0)) hnl
  have e1 : endsAt b 0 = endsAt a 0 := h.occ [60, 47] 0 (by simp; omega)
  have e2 : fromT b 0 = fromT a 0 := by unfold fromT; rw [e1]
  have e3 : nameL b (fromT a 0) = nameL a (fromT a 0) := h.stop _ _ hle (by show nameL a (fromT a 0) < m; omega)
  have e4 : restT b (nameL a (fromT a 0)) [] false = some (al, sf, m) := rest_same h _ _ _ [] false al sf hnl (by have := h.hb; omega) h3
  rw [h4]
  unfold readT
  rw [if_neg (by decide), show (0 : Int).toNat = 0 from rfl, List.drop_zero, List.head?_eq_getElem?, ← h.at 0 (by omega), h1, if_pos rfl]
  unfold tagT
  rw [e1, e2, ← h.at _ (by omega), if_pos h2, e3, e4, h.piece _ _ (by omega)]
theorem tag_end {n : Nat} {a : List UInt8} (ht : (readT a 0).2.2 = true) (hn : (readT a 0).2.1 = (n : Int)) : 2 < n ∧ n ≤ a.length ∧ a[n - 1]? = some 62 := by
  obtain ⟨h1, h2, al, sf, m, h3, h4⟩ := tag_parts ht
  rw [h4] at hn
  obtain rfl : m = n := Int.ofNat.inj hn
  have hf := from_bd a
  have hg := name_gt h2
  have hle : fromT a 0 ≤ a.length := by obtain ⟨c, hc, _⟩ := any_at h2; have := lt_of_at hc; omega
  have hnl : nameL a (fromT a 0) ≤ a.length := stopL_le _ _ _ hle
  have he := rest_end a _ _ [] false al sf m hnl h3
  have hs := skip_bd a (nameL a (fromT a 0)) hnl
  exact ⟨by omega, he.2⟩
theorem tag_ends {a : List UInt8} (ht : (readT a 0).2.2 = true) : ∃ n : Nat, (readT a 0).2.1 = (n : Int) := by
  obtain ⟨_, _, al, sf, m, _, h4⟩ := tag_parts ht
  exact ⟨m, by rw [h4]⟩

/-! ### the name and the attributes are in order -/
def okB (c : UInt8) : Prop := lowB c = c ∧ spaceB c = false ∧ c ≠ 47 ∧ c ≠ 62
def NameOk (l : List UInt8) : Prop := (l[0]?).any letterB = true ∧ ∀ c ∈ l, okB c
theorem low_ok {c : UInt8} (h : hasB endsN c = false) : okB (lowB c) := by
  have hn : ∀ x ∈ endsN, c ≠ x := fun x hx e => by
    rw [e] at h
    rw [(hasB_iff endsN x).2 hx] at h; cases h
  have h1 := lowB_toNat c
  have h2 := lowB_toNat (lowB c)
  have hx : ∀ x : UInt8, x ∈ endsN → c.toNat ≠ x.toNat := fun x hx e => hn x hx (UInt8.toNat_inj.1 e)
  have n9 := hx 9 (by decide)
  have n10 := hx 10 (by decide)
  have n12 := hx 12 (by decide)
  have n13 := hx 13 (by decide)
  have n32 := hx 32 (by decide)
  have n47 := hx 47 (by decide)
  have n62 := hx 62 (by decide)
  have g : ∀ x : UInt8, (lowB c).toNat ≠ x.toNat → lowB c ≠ x := fun x hh e => hh (by rw [e])
  have v9 : (9 : UInt8).toNat = 9 := rfl
  have v10 : (10 : UInt8).toNat = 10 := rfl
  have v12 : (12 : UInt8).toNat = 12 := rfl
  have v13 : (13 : UInt8).toNat = 13 := rfl
  have v32 : (32 : UInt8).toNat = 32 := rfl
  have v47 : (47 : UInt8).toNat = 47 := rfl
  have v62 : (62 : UInt8).toNat = 62 := rfl
  rw [v9] at n9; rw [v10] at n10; rw [v12] at n12; rw [v13] at n13; rw [v32] at n32; rw [v47] at n47; rw [v62] at n62
  have k : (lowB c).toNat ≠ 9 ∧ (lowB c).toNat ≠ 10 ∧ (lowB c).toNat ≠ 12 ∧ (lowB c).toNat ≠ 13 ∧ (lowB c).toNat ≠ 32 ∧ (lowB c).toNat ≠ 47 ∧ (lowB c).toNat ≠ 62 := by
    split at h1 <;> omega
  refine ⟨UInt8.toNat_inj.1 (by split at h2 <;> split at h1 <;> omega), ?_, g 47 (by rw [v47]; omega), g 62 (by rw [v62]; omega)⟩
  unfold spaceB
  simp only [Bool.or_eq_false_iff, beq_eq_false_iff_ne]
  exact ⟨⟨⟨⟨g 9 (by rw [v9]; omega), g 10 (by rw [v10]; omega)⟩, g 12 (by rw [v12]; omega)⟩, g 13 (by rw [v13]; omega)⟩, g 32 (by rw [v32]; omega)⟩
theorem letter_low {c : UInt8} (h : letterB c = true) : letterB (lowB c) = true := by
  have h1 := lowB_toNat c
  unfold letterB at h ⊢
  simp only [Bool.or_eq_true, Bool.and_eq_true, decide_eq_true_eq] at h ⊢
  split at h1 <;> omega
theorem piece_name (l : List UInt8) (i : Nat) (hi : i ≤ l.length) : ∀ c ∈ pieceL l i (nameL l i), hasB endsN c = false := by
  intro c hc
  obtain ⟨j, hj⟩ := List.mem_iff_getElem?.1 hc
  unfold pieceL at hj
  rw [List.getElem?_take] at hj
  split at hj
  · rename_i hlt
    rw [List.getElem?_drop] at hj
    obtain ⟨hl, e⟩ := List.getElem?_eq_some_iff.1 hj
    have hm := stopL_mem (fun c => !hasB endsN c) l i (i + j) hi (by omega) (by show i + j < nameL l i; omega) hl
    rw [e] at hm
    simpa using hm
  · cases hj
theorem tag_name {a : List UInt8} (ht : (readT a 0).2.2 = true) : NameOk (readT a 0).1.name := by
  obtain ⟨_, h2, al, sf, m, _, h4⟩ := tag_parts ht
  have hg := name_gt h2
  obtain ⟨c0, hc0, hp0⟩ := any_at h2
  have hlt := lt_of_at hc0
  have e : (readT a 0).1.name = lowL (pieceL a (fromT a 0) (nameL a (fromT a 0))) := by rw [h4]; simp only; split <;> rfl
  rw [e]
  refine ⟨?_, fun c hc => ?_⟩
  · unfold lowL
    rw [List.getElem?_map]
    have : (pieceL a (fromT a 0) (nameL a (fromT a 0)))[0]? = some c0 := by
      unfold pieceL
      rw [List.getElem?_take, if_pos (by omega), List.getElem?_drop, Nat.add_zero, hc0]
    rw [this]
    exact letter_low hp0
  · obtain ⟨x, hx, rfl⟩ := List.mem_map.1 hc
    exact low_ok (piece_name a _ (by omega) x hx)
def Listed (al : List At) : Prop := NoDup al ∧ ∀ x ∈ al, x.name.size ≠ 0
theorem attr_named (l : List UInt8) (k : Nat) (hk : k < l.length) (h0 : (attrT l k).2.2 ≠ 0) : (attrT l k).1.name.size ≠ 0 := by
  have hbd := nameEnd_bd l k hk
  have hz : (S (lowL (pieceL l k (nameEnd l k)))).size ≠ 0 := by
    rw [size_S, lowL_length, pieceL_len _ _ _ (by omega) hbd.2]; omega
  unfold attrT at h0 ⊢
  split at h0
  · simp at h0
  · rename_i h1
    rw [if_neg h1]
    unfold attrV at h0 ⊢
    split at h0
    · rename_i h2
      rw [if_pos h2]
      split at h0
      · simp at h0
      · rename_i h3
        rw [if_neg h3]; exact hz
    · rename_i h2
      rw [if_neg h2]; exact hz
theorem add_listed {al : List At} {x : At} (h : Listed al) (hx : x.name.size ≠ 0) : Listed (addA al x) := by
  refine ⟨addA_nodup x h.1, fun y hy => ?_⟩
  unfold addA at hy
  split at hy
  · exact h.2 y hy
  · rcases List.mem_append.1 hy with hy | hy
    · exact h.2 y hy
    · rw [List.mem_singleton.1 hy]; exact hx
theorem rest_listed (l : List UInt8) : ∀ (f k : Nat) (al : List At) (sf : Bool) (al' : List At) (sf' : Bool) (n : Nat), k ≤ l.length → Listed al → restF f l k al sf = some (al', sf', n) → Listed al'
  | 0, _, _, _, _, _, _, _, _, h => by unfold restF at h; cases h
  | f + 1, k, al, sf, al', sf', n, hk, hl, h => by
    unfold restF at h
    have hs := skip_bd l k hk
    cases hc : l[skipL l k]? with
    | none => rw [hc] at h; cases h
    | some c =>
      have hlt := lt_of_at hc
      have hat := attr_bd l (skipL l k) hlt
      rw [hc] at h
      simp only at h
      split at h
      · obtain ⟨rfl, _, _⟩ : al = al' ∧ _ ∧ _ := by simpa using h
        exact hl
      · split at h
        · split at h
          · obtain ⟨rfl, _, _⟩ : al = al' ∧ _ ∧ _ := by simpa using h
            exact hl
          · exact rest_listed l f _ al sf al' sf' n (by omega) hl h
        · split at h
          · cases h
          · rename_i h0
            have hl2 := add_listed hl (attr_named l _ hlt h0)
            split at h
            · obtain ⟨rfl, _, _⟩ : _ = al' ∧ _ ∧ _ := by simpa using h
              exact hl2
            · exact rest_listed l f _ _ sf al' sf' n hat.2.1 hl2 h
theorem listed_nil : Listed [] := ⟨List.Pairwise.nil, fun x hx => by cases hx⟩
theorem tag_listed {a : List UInt8} (ht : (readT a 0).2.2 = true) : Listed (readT a 0).1.attrs ∧ (((readT a 0).1.kind = 2) ∨ ((readT a 0).1.kind = 3 ∧ (readT a 0).1.attrs = [] ∧ (readT a 0).1.self = false)) := by
  obtain ⟨_, h2, al, sf, m, h3, h4⟩ := tag_parts ht
  obtain ⟨c0, hc0, hp0⟩ := any_at h2
  have hlt := lt_of_at hc0
  rw [h4]
  simp only
  split
  · exact ⟨listed_nil, .inr ⟨rfl, rfl, rfl⟩⟩
  · exact ⟨rest_listed a _ _ [] false al sf m (stopL_le _ _ _ (by omega)) listed_nil h3, .inl rfl⟩
/-- No double: the unique ones are all. -/
theorem more_all : ∀ (m l : List At), NoDup (l ++ m) → moreA l m = l ++ m
  | [], l, _ => by simp [moreA]
  | x :: m, l, h => by
    have hx : l.any (nameP x.name) = false := by
      rw [List.any_eq_false]
      intro y hy e
      exact (List.pairwise_append.1 h).2.2 y hy x (by simp) (nameP_iff.1 e)
    have e : addA l x = l ++ [x] := by unfold addA; rw [hx]; rfl
    show moreA (addA l x) m = _
    rw [e, more_all m (l ++ [x]) (by simpa using h)]
    simp
theorem uniq_all {l : List At} (h : NoDup l) : uniqA l = l := more_all l [] h
theorem no_empty {l : List At} (h : Listed l) : l.any (nameP ⟨#[]⟩) = false := by
  rw [List.any_eq_false]
  intro x hx e
  exact h.2 x hx (by rw [nameP_iff.1 e]; rfl)
end Go.Proofs.YtojpedgfllgbcaaDoor

/- RefPlain's plain law: what is escaped comes back. No program in sight. -/
namespace Go.Proofs.YtojpedgfllgbcaaDoor
open Go.RowKit

def escB (c : UInt8) : List UInt8 := if c = 38 then [38, 97, 109, 112, 59] else [c]
def escL (l : List UInt8) : List UInt8 := l.flatMap escB
def bareB (c : UInt8) : List UInt8 := if c = 38 then [] else [c]
def bareL (l : List UInt8) : List UInt8 := l.flatMap bareB
theorem named_amp (r : List UInt8) : namedR (97 :: 109 :: 112 :: 59 :: r) = (⟨#[97, 109, 112, 59]⟩, ⟨#[38]⟩) := by kernel_rfl
theorem refS_amp (attr : Bool) (r : List UInt8) : refS attr (38 :: 97 :: 109 :: 112 :: 59 :: r) = ([38], 5) := by
  unfold refS
  rw [if_neg (by rw [show foldL (38 :: 97 :: 109 :: 112 :: 59 :: r) [38, 35, 120] 0 = false from by kernel_rfl]; decide),
    if_neg (by rw [show startsL (38 :: 97 :: 109 :: 112 :: 59 :: r) [38, 35] 0 = false from by kernel_rfl]; decide)]
  unfold nameS
  simp only [List.drop_succ_cons, List.drop_zero]
  rw [named_amp]
  rw [if_neg (by decide), if_neg]
  · rfl
  · show ¬ ((attr && (some (59 : UInt8) != some 59) && _) = true)
    simp
theorem all_esc (attr : Bool) : ∀ l : List UInt8, allR attr (escL l) = l
  | [] => rfl
  | c :: l => by
    have ih := all_esc attr l
    show allR attr (escB c ++ escL l) = _
    unfold escB
    split
    · rename_i h
      subst h
      show allR attr (38 :: 97 :: 109 :: 112 :: 59 :: escL l) = _
      rw [allR_amp, refS_amp]
      show [38] ++ allR attr (escL l) = _
      rw [ih]; rfl
    · rename_i h
      show allR attr (c :: escL l) = _
      rw [allR_other attr c _ h, ih]
theorem all_bare (attr : Bool) (l : List UInt8) : allR attr (bareL l) = bareL l := by
  have := allR_plain attr (bareL l) [] (fun c hc => by
    obtain ⟨x, _, hx⟩ := List.mem_flatMap.1 hc
    unfold bareB at hx
    split at hx
    · cases hx
    · rename_i h; rw [List.mem_singleton] at hx; rw [hx]; exact h)
  rw [List.append_nil, allR_nil, List.append_nil] at this
  exact this
theorem flat_snoc (f : UInt8 → List UInt8) (l : List UInt8) (k : Nat) (c : UInt8) (h : l[k]? = some c) : (l.take (k + 1)).flatMap f = (l.take k).flatMap f ++ f c := by
  rw [List.take_add_one, h, List.flatMap_append]
  simp
theorem esc_len (l : List UInt8) : (escL l).length ≤ 5 * l.length := by
  induction l with
  | nil => simp [escL]
  | cons c l ih =>
    show (escB c ++ escL l).length ≤ _
    rw [List.length_append, List.length_cons]
    have : (escB c).length ≤ 5 := by unfold escB; split <;> simp
    omega
theorem bare_len (l : List UInt8) : (bareL l).length ≤ l.length := by
  induction l with
  | nil => simp [bareL]
  | cons c l ih =>
    show (bareB c ++ bareL l).length ≤ _
    rw [List.length_append, List.length_cons]
    have : (bareB c).length ≤ 1 := by unfold bareB; split <;> simp
    omega
end Go.Proofs.YtojpedgfllgbcaaDoor
