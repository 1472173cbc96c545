/- A text without '<' and '&' is one Text; written as references any text comes back: the plain law. No program in sight. -/
import Derived.Test.YtdjeajbinpgpiaaLexL0
namespace Go.Proofs.Ytdjeajbinpgpiaa

def escX1 (c : UInt8) : List UInt8 := if c = 60 then [38, 108, 116, 59] else if c = 38 then [38, 97, 109, 112, 59] else [c]
def escX (l : List UInt8) : List UInt8 := l.flatMap escX1
theorem escX_len (l : List UInt8) : (escX l).length ≤ 5 * l.length := by
  unfold escX
  induction l with
  | nil => simp
  | cons c l ih =>
    rw [List.flatMap_cons, List.length_append, List.length_cons]
    have : (escX1 c).length ≤ 5 := by unfold escX1; split <;> (try split) <;> simp
    omega
theorem escX_take {l : List UInt8} {k : Nat} {c : UInt8} (h : l[k]? = some c) : escX (l.take (k + 1)) = escX (l.take k) ++ escX1 c := by
  unfold escX
  rw [List.take_add_one, h, List.flatMap_append]
  simp
theorem escX_no (l : List UInt8) : ∀ c ∈ escX l, c ≠ 60 := fun c hc => by
  obtain ⟨d, _, hd⟩ := List.mem_flatMap.1 hc
  unfold escX1 at hd
  split at hd
  · simp only [List.mem_cons, List.not_mem_nil, or_false] at hd
    rcases hd with rfl | rfl | rfl | rfl <;> decide
  · rename_i h60
    split at hd
    · simp only [List.mem_cons, List.not_mem_nil, or_false] at hd
      rcases hd with rfl | rfl | rfl | rfl | rfl <;> decide
    · rw [List.mem_singleton] at hd
      rw [hd]; exact h60
theorem readT_no {x : List UInt8} {k : Nat} (h : x[k]? ≠ some 60) : readT x k = (noTg, (k : Int), false) := by
  unfold readT
  rw [if_neg (by omega), if_neg]
  rw [Int.toNat_natCast, List.head?_drop]
  exact h
theorem starts60 {x r : List UInt8} {k : Nat} (h : x[k]? ≠ some 60) : startsL x (60 :: r) k = false := by
  cases hs : startsL x (60 :: r) k with
  | false => rfl
  | true =>
    have := occ_get (l := x) (sub := 60 :: r) (k := k) (i := 0) hs (by simp)
    exact absurd this h
theorem fold60 {x r : List UInt8} {k : Nat} (h : x[k]? ≠ some 60) : foldL x (60 :: r) k = false := by
  cases hs : foldL x (60 :: r) k with
  | false => rfl
  | true =>
    have h1 := occ_get (l := lowL x) (sub := lowL (60 :: r)) (k := k) (i := 0) hs (by simp [lowL])
    have h2 : (lowL x)[k]? = some 60 := h1
    unfold lowL at h2
    rw [List.getElem?_map] at h2
    cases hx : x[k]? with
    | none => rw [hx] at h2; cases h2
    | some c =>
      rw [hx] at h2
      have h3 : lowB c = 60 := Option.some.inj h2
      rw [low_only h3 (by decide)] at hx
      exact absurd hx h
theorem readM_no {x : List UInt8} {k : Nat} (fo : Bool) (h : x[k]? ≠ some 60) : readM x k fo = (noTm, (k : Int), false) := by
  have s1 : startsL x beginA k = false := starts60 h
  have s2 : foldL x beginD k = false := fold60 h
  have s3 : startsL x beginC k = false := starts60 h
  have s4 : startsL x [60, 33] k = false := starts60 h
  have s5 : startsL x [60, 63] k = false := starts60 h
  have s6 : startsL x [60, 47, 62] k = false := starts60 h
  have s7 : startsL x [60, 47] k = false := starts60 h
  unfold readM
  split
  · rfl
  rw [Int.toNat_natCast, s1, s2, s3, s4, s5, s6, s7, Bool.and_false, Bool.false_and, if_neg (by decide), if_neg (by decide), if_neg (by decide), if_neg (by decide), if_neg (by decide), if_neg (by decide), if_neg (by decide)]
theorem named_lt (r : List UInt8) : namedR (108 :: 116 :: 59 :: r) = (⟨#[108, 116, 59]⟩, ⟨#[60]⟩) := by kernel_rfl
theorem refS_lt (attr : Bool) (r : List UInt8) : refS attr (38 :: 108 :: 116 :: 59 :: r) = ([60], 4) := by
  unfold refS
  rw [if_neg (by rw [show foldL (38 :: 108 :: 116 :: 59 :: r) [38, 35, 120] 0 = false from by kernel_rfl]; decide),
    if_neg (by rw [show startsL (38 :: 108 :: 116 :: 59 :: r) [38, 35] 0 = false from by kernel_rfl]; decide)]
  unfold nameS
  simp only [List.drop_succ_cons, List.drop_zero]
  rw [named_lt]
  rw [if_neg (by decide), if_neg]
  · rfl
  · show ¬ ((attr && (some (59 : UInt8) != some 59) && _) = true)
    simp
/-- All that is written so is one text. -/
theorem text_esc (fo : Bool) : ∀ (l pre : List UInt8) (first : Bool), textX (pre ++ escX l) fo pre.length first = (l, (pre ++ escX l).length)
  | [], pre, first => by
    rw [textX_step _ _ _ _ (by simp), List.getElem?_eq_none (by simp [escX])]
    simp [escX]
  | c :: l, pre, first => by
    have hle : pre.length ≤ (pre ++ escX (c :: l)).length := by simp
    have hcons : escX (c :: l) = escX1 c ++ escX l := by unfold escX; rw [List.flatMap_cons]
    have hdrop : (pre ++ escX (c :: l)).drop pre.length = escX (c :: l) := List.drop_left' rfl
    rw [textX_step _ _ _ _ hle]
    by_cases h60 : c = 60
    · subst h60
      have he : escX (60 :: l) = [38, 108, 116, 59] ++ escX l := hcons
      have hat : (pre ++ escX (60 :: l))[pre.length]? = some 38 := by rw [List.getElem?_append_right (Nat.le_refl _), Nat.sub_self, he]; rfl
      rw [hat]
      simp only
      rw [if_neg (by simp), if_pos trivial, hdrop]
      rw [show refS false (escX (60 :: l)) = ([60], 4) by rw [he]; exact refS_lt false _]
      have hsplit : pre ++ escX (60 :: l) = (pre ++ [38, 108, 116, 59]) ++ escX l := by rw [he, List.append_assoc]
      have ih := text_esc fo l (pre ++ [38, 108, 116, 59]) false
      rw [← hsplit, show (pre ++ [(38 : UInt8), 108, 116, 59]).length = pre.length + 4 by simp] at ih
      rw [ih]
      rfl
    by_cases h38 : c = 38
    · subst h38
      have he : escX (38 :: l) = [38, 97, 109, 112, 59] ++ escX l := hcons
      have hat : (pre ++ escX (38 :: l))[pre.length]? = some 38 := by rw [List.getElem?_append_right (Nat.le_refl _), Nat.sub_self, he]; rfl
      rw [hat]
      simp only
      rw [if_neg (by simp), if_pos trivial, hdrop]
      rw [show refS false (escX (38 :: l)) = ([38], 5) by rw [he]; exact refS_amp false _]
      have hsplit : pre ++ escX (38 :: l) = (pre ++ [38, 97, 109, 112, 59]) ++ escX l := by rw [he, List.append_assoc]
      have ih := text_esc fo l (pre ++ [38, 97, 109, 112, 59]) false
      rw [← hsplit, show (pre ++ [(38 : UInt8), 97, 109, 112, 59]).length = pre.length + 5 by simp] at ih
      rw [ih]
      rfl
    · have he : escX (c :: l) = [c] ++ escX l := by rw [hcons]; unfold escX1; rw [if_neg h60, if_neg h38]
      have hat : (pre ++ escX (c :: l))[pre.length]? = some c := by rw [List.getElem?_append_right (Nat.le_refl _), Nat.sub_self, he]; rfl
      rw [hat]
      simp only
      rw [if_neg (by rw [beq_eq_false_iff_ne.2 h60]; simp), if_neg h38]
      have hsplit : pre ++ escX (c :: l) = (pre ++ [c]) ++ escX l := by rw [he, List.append_assoc]
      have ih := text_esc fo l (pre ++ [c]) false
      rw [← hsplit, show (pre ++ [c]).length = pre.length + 1 by simp] at ih
      rw [ih]
theorem toks_esc (l : List UInt8) : tokensL (escX l) = if l = [] then [eofT] else [txtT l, eofT] := by
  have heof : ∀ (x : List UInt8) (s : Lx), s.at_ = x.length → nextL x s = (eofT, s) := fun x s h => by
    unfold nextL
    rw [if_pos (by omega)]
  by_cases hl : l = []
  · subst hl
    rw [if_pos rfl, tokensL_toks, toksL_step _ _ (Nat.le_refl _), heof _ _ rfl, if_pos (by show (6 : Int) = 6; rfl)]
  · rw [if_neg hl]
    have hpos : 0 < (escX l).length := by
      cases l with
      | nil => exact absurd rfl hl
      | cons c l =>
        unfold escX
        rw [List.flatMap_cons, List.length_append]
        have : 0 < (escX1 c).length := by unfold escX1; split <;> (try split) <;> simp
        omega
    have hno : (escX l)[0]? ≠ some 60 := fun e => escX_no l 60 (List.mem_of_getElem? e) rfl
    have htx := text_esc false l [] true
    simp only [List.nil_append, List.length_nil] at htx
    have hn1 : nextL (escX l) startL = (txtT l, ⟨(escX l).length, 1, false, ⟨#[]⟩⟩) := by
      unfold nextL
      rw [if_neg (by show ¬ _ ≤ 0; omega), if_neg (by decide), if_neg (by decide)]
      show ((dataX (escX l) false 0).1, afterL startL (dataX (escX l) false 0)) = _
      rw [dataX_step _ _ 0 (Nat.zero_le _), if_neg (by omega), readT_no hno, readM_no false hno, if_neg (by decide), if_neg (by simp), if_pos rfl, htx]
      rfl
    have hg1 : goL (escX l) startL = ⟨(escX l).length, 1, false, ⟨#[]⟩⟩ := by
      unfold goL
      rw [hn1, if_neg (by show ¬ (4 : Int) = 2; decide)]
    rw [tokensL_toks, toksL_step _ _ (Nat.zero_le _), hn1, if_neg (by show ¬ (4 : Int) = 6; decide), hg1, toksL_step _ _ (Nat.le_refl _), heof _ _ rfl, if_pos (by show (6 : Int) = 6; rfl)]
end Go.Proofs.Ytdjeajbinpgpiaa
