/- References: what they stand for, in plain lists of bytes. No program in sight. -/
import Derived.Test.YtjghkiphfpeocaaMarkL
import Derived.Lib.Strings
import Derived.Laws.Runes
import Derived.Laws.Cover4
namespace Go.Proofs.Ytjghkiphfpeocaa
open Go.RowKit

def tabT : List (ByteArray × ByteArray) := [(⟨#[65, 77, 80]⟩, ⟨#[38]⟩), (⟨#[65, 77, 80, 59]⟩, ⟨#[38]⟩), (⟨#[67, 79, 80, 89]⟩, ⟨#[194, 169]⟩), (⟨#[67, 79, 80, 89, 59]⟩, ⟨#[194, 169]⟩), (⟨#[71, 84]⟩, ⟨#[62]⟩), (⟨#[71, 84, 59]⟩, ⟨#[62]⟩), (⟨#[76, 84]⟩, ⟨#[60]⟩), (⟨#[76, 84, 59]⟩, ⟨#[60]⟩), (⟨#[78, 111, 116, 69, 113, 117, 97, 108, 84, 105, 108, 100, 101, 59]⟩, ⟨#[226, 137, 130, 204, 184]⟩), (⟨#[81, 85, 79, 84]⟩, ⟨#[34]⟩), (⟨#[81, 85, 79, 84, 59]⟩, ⟨#[34]⟩), (⟨#[97, 109, 112]⟩, ⟨#[38]⟩), (⟨#[97, 109, 112, 59]⟩, ⟨#[38]⟩), (⟨#[97, 112, 111, 115, 59]⟩, ⟨#[39]⟩), (⟨#[99, 101, 110, 116, 59]⟩, ⟨#[194, 162]⟩), (⟨#[99, 111, 112, 121]⟩, ⟨#[194, 169]⟩), (⟨#[99, 111, 112, 121, 59]⟩, ⟨#[194, 169]⟩), (⟨#[100, 101, 103]⟩, ⟨#[194, 176]⟩), (⟨#[100, 101, 103, 59]⟩, ⟨#[194, 176]⟩), (⟨#[101, 97, 99, 117, 116, 101]⟩, ⟨#[195, 169]⟩), (⟨#[101, 97, 99, 117, 116, 101, 59]⟩, ⟨#[195, 169]⟩), (⟨#[103, 116]⟩, ⟨#[62]⟩), (⟨#[103, 116, 59]⟩, ⟨#[62]⟩), (⟨#[104, 101, 108, 108, 105, 112, 59]⟩, ⟨#[226, 128, 166]⟩), (⟨#[108, 97, 113, 117, 111]⟩, ⟨#[194, 171]⟩), (⟨#[108, 97, 113, 117, 111, 59]⟩, ⟨#[194, 171]⟩), (⟨#[108, 116]⟩, ⟨#[60]⟩), (⟨#[108, 116, 59]⟩, ⟨#[60]⟩), (⟨#[109, 100, 97, 115, 104, 59]⟩, ⟨#[226, 128, 148]⟩), (⟨#[110, 98, 115, 112]⟩, ⟨#[194, 160]⟩), (⟨#[110, 98, 115, 112, 59]⟩, ⟨#[194, 160]⟩), (⟨#[110, 100, 97, 115, 104, 59]⟩, ⟨#[226, 128, 147]⟩), (⟨#[110, 111, 116]⟩, ⟨#[194, 172]⟩), (⟨#[110, 111, 116, 59]⟩, ⟨#[194, 172]⟩), (⟨#[110, 111, 116, 105, 110, 59]⟩, ⟨#[226, 136, 137]⟩), (⟨#[111, 117, 109, 108]⟩, ⟨#[195, 182]⟩), (⟨#[111, 117, 109, 108, 59]⟩, ⟨#[195, 182]⟩), (⟨#[113, 117, 111, 116]⟩, ⟨#[34]⟩), (⟨#[113, 117, 111, 116, 59]⟩, ⟨#[34]⟩), (⟨#[114, 97, 113, 117, 111]⟩, ⟨#[194, 187]⟩), (⟨#[114, 97, 113, 117, 111, 59]⟩, ⟨#[194, 187]⟩), (⟨#[114, 101, 103]⟩, ⟨#[194, 174]⟩), (⟨#[114, 101, 103, 59]⟩, ⟨#[194, 174]⟩), (⟨#[115, 122, 108, 105, 103]⟩, ⟨#[195, 159]⟩), (⟨#[115, 122, 108, 105, 103, 59]⟩, ⟨#[195, 159]⟩), (⟨#[116, 105, 109, 101, 115]⟩, ⟨#[195, 151]⟩), (⟨#[116, 105, 109, 101, 115, 59]⟩, ⟨#[195, 151]⟩), (⟨#[117, 117, 109, 108]⟩, ⟨#[195, 188]⟩), (⟨#[117, 117, 109, 108, 59]⟩, ⟨#[195, 188]⟩), (⟨#[121, 101, 110]⟩, ⟨#[194, 165]⟩), (⟨#[121, 101, 110, 59]⟩, ⟨#[194, 165]⟩)]
def elderT : List Nat := [8364, 0, 8218, 402, 8222, 8230, 8224, 8225, 710, 8240, 352, 8249, 338, 0, 381, 0, 0, 8216, 8217, 8220, 8221, 8226, 8211, 8212, 732, 8482, 353, 8250, 339, 0, 382, 376]

/-! ### digits and numbers -/
def digitB (c : UInt8) : Bool := decide (48 ≤ c.toNat) && decide (c.toNat ≤ 57)
def hexB (c : UInt8) : Bool := digitB c || (decide (97 ≤ c.toNat) && decide (c.toNat ≤ 102)) || (decide (65 ≤ c.toNat) && decide (c.toNat ≤ 70))
/-- What a digit is worth. -/
def hexV (c : UInt8) : Nat := if 48 ≤ c.toNat ∧ c.toNat ≤ 57 then c.toNat - 48 else if 97 ≤ c.toNat ∧ c.toNat ≤ 102 then c.toNat - 87 else if 65 ≤ c.toNat ∧ c.toNat ≤ 70 then c.toNat - 55 else 0
theorem hexV_le (c : UInt8) : hexV c ≤ 15 := by unfold hexV; (repeat' split) <;> omega
def digB (base : Nat) (c : UInt8) : Bool := hexB c && decide (hexV c < base)
def numL (base : Nat) (l : List UInt8) : Nat := l.foldl (fun n c => n * base + hexV c) 0
theorem numL_snoc (base : Nat) (l : List UInt8) (c : UInt8) : numL base (l ++ [c]) = numL base l * base + hexV c := by
  unfold numL; rw [List.foldl_append]; rfl
def capN (n : Nat) : Nat := min n 1114112
theorem capN_le (n : Nat) : capN n ≤ 1114112 := by unfold capN; omega
theorem capN_step (n d base : Nat) (h : 1 ≤ base) : min (capN n * base + d) 1114112 = capN (n * base + d) := by
  unfold capN
  have h1 : n ≤ n * base := Nat.le_mul_of_pos_right _ h
  rcases Nat.lt_or_ge n 1114112 with h2 | h2
  · rw [Nat.min_eq_left (Nat.le_of_lt h2)]
  · rw [Nat.min_eq_right h2]
    have h3 : 1114112 ≤ 1114112 * base := Nat.le_mul_of_pos_right _ h
    omega

/-- The character of a number. -/
def utfN (n : Nat) : List UInt8 := B (Utf8.encode (n : Int))
def badL : List UInt8 := [239, 191, 189]
def numberB (n : Nat) : Bool := n == 0 || decide (1114111 < n) || (decide (55296 ≤ n) && decide (n ≤ 57343))
def elderN (n : Nat) : Nat := if 128 ≤ n ∧ n ≤ 159 then elderT.getD (n - 128) 0 else 0
def numberS (n : Nat) : List UInt8 := if numberB n = true then badL else if elderN n = 0 then utfN n else utfN (elderN n)
theorem numberS_big (n : Nat) (h : 1114111 < n) : numberS n = badL := by
  unfold numberS
  rw [if_pos]
  simp [numberB, h]
theorem numberS_cap (n : Nat) : numberS (capN n) = numberS n := by
  rcases Nat.lt_or_ge 1114111 n with h | h
  · rw [numberS_big n h, numberS_big _ (by unfold capN; omega)]
  · rw [show capN n = n by unfold capN; omega]

/-! ### names -/
def nameStep (s : List UInt8) (best p : ByteArray × ByteArray) : ByteArray × ByteArray := if best.1.size < p.1.size ∧ Lib.hasPrefix s (B p.1) = true then p else best
def namedR (s : List UInt8) : ByteArray × ByteArray := tabT.foldl (nameStep s) (⟨#[]⟩, ⟨#[]⟩)

/-! ### what a text that begins with an ampersand stands for, and how many bytes of it are read -/
def numS (pre base : Nat) (l : List UInt8) : List UInt8 × Nat :=
  let d := (l.drop pre).takeWhile (digB base)
  if d = [] then ([38], 1) else (numberS (numL base d), pre + d.length + (if (l.drop (pre + d.length)).head? = some 59 then 1 else 0))
def wordB (c : UInt8) : Bool := c == 61 || letterB c || digitB c
def nameS (attr : Bool) (l : List UInt8) : List UInt8 × Nat :=
  let r := namedR (l.drop 1)
  if r.1.size = 0 then ([38], 1) else
    if (attr && l[r.1.size]? != some 59 && (l[1 + r.1.size]?).any wordB) = true then (l.take (1 + r.1.size), 1 + r.1.size) else (B r.2, 1 + r.1.size)
def refS (attr : Bool) (l : List UInt8) : List UInt8 × Nat :=
  if foldL l [38, 35, 120] 0 = true then numS 3 16 l else if startsL l [38, 35] 0 = true then numS 2 10 l else nameS attr l
/-- Read. -/
def readR (l : List UInt8) (k : Int) (attr : Bool) : List UInt8 × Int :=
  if k < 0 then ([], k) else if (l.drop k.toNat).head? = some 38 then ((refS attr (l.drop k.toNat)).1, k + (refS attr (l.drop k.toNat)).2) else ([], k)
/-- All. -/
def allF (attr : Bool) : Nat → List UInt8 → List UInt8
  | 0, _ => []
  | _ + 1, [] => []
  | f + 1, c :: l => if c = 38 then (refS attr (c :: l)).1 ++ allF attr f ((c :: l).drop (refS attr (c :: l)).2) else c :: allF attr f l
def allR (attr : Bool) (l : List UInt8) : List UInt8 := allF attr l.length l

/-! ### sizes -/
theorem utfN_len (n : Nat) : 1 ≤ (utfN n).length ∧ (utfN n).length ≤ 4 := by
  unfold utfN
  rw [← size_B]
  refine ⟨?_, encode_size_le _⟩
  unfold Utf8.encode
  dsimp only
  repeat' split
  all_goals first | (show 1 ≤ 1; omega) | (show 1 ≤ 2; omega) | (show 1 ≤ 3; omega) | (show 1 ≤ 4; omega)
theorem numberS_len (n : Nat) : 1 ≤ (numberS n).length ∧ (numberS n).length ≤ 4 := by
  unfold numberS
  split
  · decide
  · split <;> exact utfN_len _
theorem tab_facts : ∀ p ∈ tabT, 2 ≤ p.1.size ∧ p.1.size ≤ 16 ∧ 1 ≤ p.2.size ∧ p.2.size ≤ 6 := by decide +kernel
theorem named_step (s : List UInt8) : ∀ (t : List (ByteArray × ByteArray)) (b : ByteArray × ByteArray), (t.foldl (nameStep s) b) = b ∨ ((t.foldl (nameStep s) b) ∈ t ∧ Lib.hasPrefix s (B (t.foldl (nameStep s) b).1) = true)
  | [], b => .inl rfl
  | p :: t, b => by
    simp only [List.foldl_cons]
    rcases named_step s t (nameStep s b p) with h | ⟨h, h'⟩
    · rw [h]
      unfold nameStep
      split
      · rename_i hc
        exact .inr ⟨List.mem_cons_self, hc.2⟩
      · exact .inl rfl
    · exact .inr ⟨List.mem_cons_of_mem _ h, h'⟩
theorem named_cases (s : List UInt8) : (namedR s = (⟨#[]⟩, ⟨#[]⟩)) ∨ (2 ≤ (namedR s).1.size ∧ (namedR s).1.size ≤ 16 ∧ 1 ≤ (namedR s).2.size ∧ (namedR s).2.size ≤ 6 ∧ (namedR s).1.size ≤ s.length) := by
  rcases named_step s tabT (⟨#[]⟩, ⟨#[]⟩) with h | ⟨h, h'⟩
  · exact .inl h
  · refine .inr ?_
    obtain ⟨h1, h2, h3, h4⟩ := tab_facts _ h
    refine ⟨h1, h2, h3, h4, ?_⟩
    rw [size_B]
    exact (List.isPrefixOf_iff_prefix.1 h').length_le
theorem named_size (s : List UInt8) : (namedR s).1.size ≤ s.length ∧ (namedR s).1.size ≤ 16 ∧ (namedR s).2.size ≤ 6 := by
  rcases named_cases s with h | ⟨_, h2, _, h4, h5⟩
  · rw [h]; exact ⟨Nat.zero_le _, by show 0 ≤ 16; omega, by show 0 ≤ 6; omega⟩
  · exact ⟨h5, h2, h4⟩
theorem take_len (p : UInt8 → Bool) (l : List UInt8) (k : Nat) : ((l.drop k).takeWhile p).length ≤ l.length - k := by
  have := (List.takeWhile_prefix p (l := l.drop k)).length_le
  rw [List.length_drop] at this
  exact this
theorem numS_facts (pre base : Nat) (l : List UInt8) (h1 : 1 ≤ pre) (h2 : pre ≤ l.length) (h3 : 1 ≤ l.length) : 1 ≤ (numS pre base l).2 ∧ (numS pre base l).2 ≤ l.length ∧ 1 ≤ (numS pre base l).1.length ∧ (numS pre base l).1.length ≤ 6 * (numS pre base l).2 := by
  have ht := take_len (digB base) l pre
  unfold numS
  simp only
  split
  · exact ⟨Nat.le_refl _, h3, Nat.le_refl _, by show 1 ≤ 6; omega⟩
  · rename_i hd
    have hd1 : 1 ≤ ((l.drop pre).takeWhile (digB base)).length := by
      rcases Nat.eq_zero_or_pos ((l.drop pre).takeWhile (digB base)).length with h | h
      · exact absurd (List.eq_nil_of_length_eq_zero h) hd
      · exact h
    have hn := numberS_len (numL base ((l.drop pre).takeWhile (digB base)))
    have hs : (if (l.drop (pre + ((l.drop pre).takeWhile (digB base)).length)).head? = some 59 then 1 else 0) ≤ l.length - (pre + ((l.drop pre).takeWhile (digB base)).length) := by
      split
      · rename_i hh
        have : (l.drop (pre + ((l.drop pre).takeWhile (digB base)).length)) ≠ [] := by intro e; rw [e] at hh; cases hh
        have := List.length_pos_iff.2 this
        rw [List.length_drop] at this
        omega
      · omega
    refine ⟨by omega, ?_, hn.1, ?_⟩ <;> simp only <;> omega
theorem nameS_facts (attr : Bool) (l : List UInt8) (h3 : 1 ≤ l.length) : 1 ≤ (nameS attr l).2 ∧ (nameS attr l).2 ≤ l.length ∧ 1 ≤ (nameS attr l).1.length ∧ (nameS attr l).1.length ≤ 6 * (nameS attr l).2 := by
  unfold nameS
  simp only
  rcases named_cases (l.drop 1) with h | ⟨g1, g2, g3, g4, g5⟩
  · rw [h, if_pos (by rfl)]
    exact ⟨Nat.le_refl _, h3, Nat.le_refl _, by show 1 ≤ 6; omega⟩
  · rw [if_neg (by omega)]
    rw [List.length_drop] at g5
    rw [size_B] at g3 g4
    split
    · refine ⟨?_, ?_, ?_, ?_⟩ <;> simp only [List.length_take] <;> omega
    · refine ⟨?_, ?_, ?_, ?_⟩ <;> simp only <;> omega
theorem fold_starts {l sub : List UInt8} (h : foldL l sub 0 = true) : sub.length ≤ l.length := by
  unfold foldL Lib.occAt at h
  have := (List.isPrefixOf_iff_prefix.1 h).length_le
  simpa [lowL] using this
theorem starts_len0 {l sub : List UInt8} (h : startsL l sub 0 = true) : sub.length ≤ l.length := by
  unfold startsL Lib.occAt at h
  have := (List.isPrefixOf_iff_prefix.1 h).length_le
  simpa using this
theorem refS_facts (attr : Bool) (l : List UInt8) (h3 : 1 ≤ l.length) : 1 ≤ (refS attr l).2 ∧ (refS attr l).2 ≤ l.length ∧ 1 ≤ (refS attr l).1.length ∧ (refS attr l).1.length ≤ 6 * (refS attr l).2 := by
  unfold refS
  split
  · rename_i h
    exact numS_facts 3 16 l (by omega) (fold_starts h) h3
  · split
    · rename_i _ h
      exact numS_facts 2 10 l (by omega) (starts_len0 h) h3
    · exact nameS_facts attr l h3

/-! ### All -/
theorem allF_more (attr : Bool) : ∀ (f : Nat) (l : List UInt8), l.length ≤ f → ∀ g, l.length ≤ g → allF attr f l = allF attr g l
  | 0, l, h, g, hg => by
    obtain rfl : l = [] := List.eq_nil_of_length_eq_zero (by omega)
    cases g <;> rfl
  | f + 1, l, h, g, hg => by
    cases l with
    | nil => cases g <;> rfl
    | cons c l =>
      simp only [List.length_cons] at h hg
      obtain ⟨g, rfl⟩ : ∃ m, g = m + 1 := ⟨g - 1, by omega⟩
      simp only [allF]
      split
      · have := refS_facts attr (c :: l) (by simp)
        rw [allF_more attr f _ (by rw [List.length_drop, List.length_cons]; omega) g (by rw [List.length_drop, List.length_cons]; omega)]
      · rw [allF_more attr f l (by omega) g (by omega)]
theorem allR_nil (attr : Bool) : allR attr [] = [] := rfl
theorem allR_amp (attr : Bool) (l : List UInt8) : allR attr (38 :: l) = (refS attr (38 :: l)).1 ++ allR attr ((38 :: l).drop (refS attr (38 :: l)).2) := by
  have := refS_facts attr (38 :: l) (by simp)
  have e : allR attr (38 :: l) = (refS attr (38 :: l)).1 ++ allF attr l.length ((38 :: l).drop (refS attr (38 :: l)).2) := by
    unfold allR; simp only [List.length_cons, allF]; rw [if_pos trivial]
  rw [e, allF_more attr l.length _ (by rw [List.length_drop, List.length_cons]; omega) _ (Nat.le_refl _)]
  rfl
theorem allR_other (attr : Bool) (c : UInt8) (l : List UInt8) (h : c ≠ 38) : allR attr (c :: l) = c :: allR attr l := by
  unfold allR; simp only [List.length_cons, allF]; rw [if_neg h]
theorem allR_plain (attr : Bool) : ∀ (a l : List UInt8), (∀ c ∈ a, c ≠ 38) → allR attr (a ++ l) = a ++ allR attr l
  | [], l, _ => rfl
  | c :: a, l, h => by
    rw [List.cons_append, allR_other attr c _ (h c List.mem_cons_self), allR_plain attr a l (fun x hx => h x (List.mem_cons_of_mem _ hx))]
    rfl
theorem allR_len (attr : Bool) : ∀ (f : Nat) (l : List UInt8), l.length ≤ f → (allR attr l).length ≤ 6 * l.length
  | 0, l, h => by
    obtain rfl : l = [] := List.eq_nil_of_length_eq_zero (by omega)
    rw [allR_nil]; simp
  | f + 1, l, h => by
    cases l with
    | nil => rw [allR_nil]; simp
    | cons c l =>
      simp only [List.length_cons] at h
      by_cases hc : c = 38
      · subst hc
        have := refS_facts attr (38 :: l) (by simp)
        rw [allR_amp, List.length_append]
        have ih := allR_len attr f ((38 :: l).drop (refS attr (38 :: l)).2) (by rw [List.length_drop, List.length_cons]; omega)
        rw [List.length_drop] at ih
        simp only [List.length_cons] at *
        omega
      · rw [allR_other attr c l hc, List.length_cons, List.length_cons]
        have ih := allR_len attr f l (by omega)
        omega
/-- Where the next ampersand stands. -/
theorem find_byte (l : List UInt8) (c : UInt8) (k : Nat) (hk : k ≤ l.length) : findL l [c] k = stopL (fun x => x != c) l k := by
  have h1 := stopL_ge (fun x => x != c) l k
  have h2 := stopL_le (fun x => x != c) l k hk
  have ho : ∀ j, (h : j < l.length) → Lib.occAt l [c] j = (l[j] == c) := fun j h => by
    unfold Lib.occAt
    rw [List.drop_eq_getElem_cons h]
    show (c == l[j] && List.isPrefixOf [] _) = _
    rw [show List.isPrefixOf [] (l.drop (j + 1)) = true from rfl, Bool.and_true, Bool.eq_iff_iff]
    simp only [beq_iff_eq]
    exact eq_comm
  have hn : ∀ j, k ≤ j → j < stopL (fun x => x != c) l k → Lib.occAt l [c] j = false := fun j h3 h4 => by
    have := stopL_mem (fun x => x != c) l k j hk h3 h4 (by omega)
    rw [ho j (by omega)]
    simpa [bne] using this
  rcases Nat.lt_or_ge (stopL (fun x => x != c) l k) l.length with h | h
  · refine findL_first l [c] k _ h1 h2 ?_ hn
    have := stopL_at (fun x => x != c) l k hk h
    rw [ho _ h]
    simpa [bne] using this
  · have he : stopL (fun x => x != c) l k = l.length := by omega
    rw [he]
    refine findL_none l [c] k hk (fun j h3 h4 => ?_)
    rcases Nat.lt_or_ge j l.length with h5 | h5
    · exact hn j h3 (by omega)
    · unfold Lib.occAt
      rw [List.drop_eq_nil_of_le h5]
      rfl
theorem piece_stop (p : UInt8 → Bool) (l : List UInt8) (k : Nat) : pieceL l k (stopL p l k) = (l.drop k).takeWhile p := by
  unfold pieceL stopL
  rw [show k + ((l.drop k).takeWhile p).length - k = ((l.drop k).takeWhile p).length by omega]
  exact (List.prefix_iff_eq_take.1 (List.takeWhile_prefix p)).symm
theorem drop_piece (l : List UInt8) (k j : Nat) (h : k ≤ j) : l.drop k = pieceL l k j ++ l.drop j := by
  unfold pieceL
  have : l.drop j = (l.drop k).drop (j - k) := by rw [List.drop_drop]; congr 1; omega
  rw [this, List.take_append_drop]
/-- One round of All: what stands ahead of the next ampersand, and the reference. -/
theorem allR_round (attr : Bool) (l : List UInt8) (k : Nat) (hk : k ≤ l.length) : allR attr (l.drop k) = pieceL l k (findL l [38] k) ++ allR attr (l.drop (findL l [38] k)) := by
  rw [find_byte l 38 k hk]
  rw [drop_piece l k (stopL (fun x => x != 38) l k) (stopL_ge _ _ _), allR_plain]
  intro c hc
  rw [piece_stop] at hc
  have := List.all_eq_true.1 (List.all_takeWhile (p := fun x => x != (38 : UInt8)) (l := l.drop k)) c hc
  simpa using this
end Go.Proofs.Ytjghkiphfpeocaa
