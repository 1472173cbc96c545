/- Joined texts: LexPl, LexRfL. -/
import Derived.Test.YtdjeajbinpgpiaaGreatJLexerTells10
namespace Go.Proofs.YtdjeajbinpgpiaaGreat

def escX1 (c : UInt8) : List UInt8 := if c = 60 then [38, 108, 116, 59] else if c = 38 then [38, 97, 109, 112, 59] else [c]
def escX (l : List UInt8) : List UInt8 := l.flatMap escX1
theorem escX_len (l : List UInt8) : (escX l).length ≤ 5 * l.length := by
  unfold escX
  induction l with
  | nil => simp
  | cons c l ih =>
    rw [List.flatMap_cons, List.length_append, List.length_cons]
    have : (escX1 c).length ≤ 5 := by unfold escX1; split <;> (try split) <;> simp
    omega
theorem escX_take {l : List UInt8} {k : Nat} {c : UInt8} (h : l[k]? = some c) : escX (l.take (k + 1)) = escX (l.take k) ++ escX1 c := by
  unfold escX
  rw [List.take_add_one, h, List.flatMap_append]
  simp
theorem escX_no (l : List UInt8) : ∀ c ∈ escX l, c ≠ 60 := fun c hc => by
  obtain ⟨d, _, hd⟩ := List.mem_flatMap.1 hc
  unfold escX1 at hd
  split at hd
  · simp only [List.mem_cons, List.not_mem_nil, or_false] at hd
    rcases hd with rfl | rfl | rfl | rfl <;> decide
  · rename_i h60
    split at hd
    · simp only [List.mem_cons, List.not_mem_nil, or_false] at hd
      rcases hd with rfl | rfl | rfl | rfl | rfl <;> decide
    · rw [List.mem_singleton] at hd
      rw [hd]; exact h60
theorem readT_no {x : List UInt8} {k : Nat} (h : x[k]? ≠ some 60) : readT x k = (noTg, (k : Int), false) := by
  unfold readT
  rw [if_neg (by omega), if_neg]
  rw [Int.toNat_natCast, List.head?_drop]
  exact h
theorem starts60 {x r : List UInt8} {k : Nat} (h : x[k]? ≠ some 60) : startsL x (60 :: r) k = false := by
  cases hs : startsL x (60 :: r) k with
  | false => rfl
  | true =>
    have := occ_get (l := x) (sub := 60 :: r) (k := k) (i := 0) hs (by simp)
    exact absurd this h
theorem fold60 {x r : List UInt8} {k : Nat} (h : x[k]? ≠ some 60) : foldL x (60 :: r) k = false := by
  cases hs : foldL x (60 :: r) k with
  | false => rfl
  | true =>
    have h1 := occ_get (l := lowL x) (sub := lowL (60 :: r)) (k := k) (i := 0) hs (by simp [lowL])
    have h2 : (lowL x)[k]? = some 60 := h1
    unfold lowL at h2
    rw [List.getElem?_map] at h2
    cases hx : x[k]? with
    | none => rw [hx] at h2; cases h2
    | some c =>
      rw [hx] at h2
      have h3 : lowB c = 60 := Option.some.inj h2
      rw [low_only h3 (by decide)] at hx
      exact absurd hx h
theorem readM_no {x : List UInt8} {k : Nat} (fo : Bool) (h : x[k]? ≠ some 60) : readM x k fo = (noTm, (k : Int), false) := by
  have s1 : startsL x beginA k = false := starts60 h
  have s2 : foldL x beginD k = false := fold60 h
  have s3 : startsL x beginC k = false := starts60 h
  have s4 : startsL x [60, 33] k = false := starts60 h
  have s5 : startsL x [60, 63] k = false := starts60 h
  have s6 : startsL x [60, 47, 62] k = false := starts60 h
  have s7 : startsL x [60, 47] k = false := starts60 h
  unfold readM
  split
  · rfl
  rw [Int.toNat_natCast, s1, s2, s3, s4, s5, s6, s7, Bool.and_false, Bool.false_and, if_neg (by decide), if_neg (by decide), if_neg (by decide), if_neg (by decide), if_neg (by decide), if_neg (by decide), if_neg (by decide)]
theorem named_lt (r : List UInt8) : namedR (108 :: 116 :: 59 :: r) = (⟨#[108, 116, 59]⟩, ⟨#[60]⟩) := by kernel_rfl
theorem refS_lt (attr : Bool) (r : List UInt8) : refS attr (38 :: 108 :: 116 :: 59 :: r) = ([60], 4) := by
  unfold refS
  rw [if_neg (by rw [show foldL (38 :: 108 :: 116 :: 59 :: r) [38, 35, 120] 0 = false from by kernel_rfl]; decide),
    if_neg (by rw [show startsL (38 :: 108 :: 116 :: 59 :: r) [38, 35] 0 = false from by kernel_rfl]; decide)]
  unfold nameS
  simp only [List.drop_succ_cons, List.drop_zero]
  rw [named_lt]
  rw [if_neg (by decide), if_neg]
  · rfl
  · show ¬ ((attr && (some (59 : UInt8) != some 59) && _) = true)
    simp
/-- All that is written so is one text. -/
theorem text_esc (fo : Bool) : ∀ (l pre : List UInt8) (first : Bool), textX (pre ++ escX l) fo pre.length first = (l, (pre ++ escX l).length)
  | [], pre, first => by
    rw [textX_step _ _ _ _ (by simp), List.getElem?_eq_none (by simp [escX])]
    simp [escX]
  | c :: l, pre, first => by
    have hle : pre.length ≤ (pre ++ escX (c :: l)).length := by simp
    have hcons : escX (c :: l) = escX1 c ++ escX l := by unfold escX; rw [List.flatMap_cons]
    have hdrop : (pre ++ escX (c :: l)).drop pre.length = escX (c :: l) := List.drop_left' rfl
    rw [textX_step _ _ _ _ hle]
    by_cases h60 : c = 60
    · subst h60
      have he : escX (60 :: l) = [38, 108, 116, 59] ++ escX l := hcons
      have hat : (pre ++ escX (60 :: l))[pre.length]? = some 38 := by rw [List.getElem?_append_right (Nat.le_refl _), Nat.sub_self, he]; rfl
      rw [hat]
      simp only
      rw [if_neg (by simp), if_pos trivial, hdrop]
      rw [show refS false (escX (60 :: l)) = ([60], 4) by rw [he]; exact refS_lt false _]
      have hsplit : pre ++ escX (60 :: l) = (pre ++ [38, 108, 116, 59]) ++ escX l := by rw [he, List.append_assoc]
      have ih := text_esc fo l (pre ++ [38, 108, 116, 59]) false
      rw [← hsplit, show (pre ++ [(38 : UInt8), 108, 116, 59]).length = pre.length + 4 by simp] at ih
      rw [ih]
      rfl
    by_cases h38 : c = 38
    · subst h38
      have he : escX (38 :: l) = [38, 97, 109, 112, 59] ++ escX l := hcons
      have hat : (pre ++ escX (38 :: l))[pre.length]? = some 38 := by rw [List.getElem?_append_right (Nat.le_refl _), Nat.sub_self, he]; rfl
      rw [hat]
      simp only
      rw [if_neg (by simp), if_pos trivial, hdrop]
      rw [show refS false (escX (38 :: l)) = ([38], 5) by rw [he]; exact refS_amp false _]
      have hsplit : pre ++ escX (38 :: l) = (pre ++ [38, 97, 109, 112, 59]) ++ escX l := by rw [he, List.append_assoc]
      have ih := text_esc fo l (pre ++ [38, 97, 109, 112, 59]) false
      rw [← hsplit, show (pre ++ [(38 : UInt8), 97, 109, 112, 59]).length = pre.length + 5 by simp] at ih
      rw [ih]
      rfl
    · have he : escX (c :: l) = [c] ++ escX l := by rw [hcons]; unfold escX1; rw [if_neg h60, if_neg h38]
      have hat : (pre ++ escX (c :: l))[pre.length]? = some c := by rw [List.getElem?_append_right (Nat.le_refl _), Nat.sub_self, he]; rfl
      rw [hat]
      simp only
      rw [if_neg (by rw [beq_eq_false_iff_ne.2 h60]; simp), if_neg h38]
      have hsplit : pre ++ escX (c :: l) = (pre ++ [c]) ++ escX l := by rw [he, List.append_assoc]
      have ih := text_esc fo l (pre ++ [c]) false
      rw [← hsplit, show (pre ++ [c]).length = pre.length + 1 by simp] at ih
      rw [ih]
theorem toks_esc (l : List UInt8) : tokensL (escX l) = if l = [] then [eofT] else [txtT l, eofT] := by
  have heof : ∀ (x : List UInt8) (s : Lx), s.at_ = x.length → nextL x s = (eofT, s) := fun x s h => by
    unfold nextL
    rw [if_pos (by omega)]
  by_cases hl : l = []
  · subst hl
    rw [if_pos rfl, tokensL_toks, toksL_step _ _ (Nat.le_refl _), heof _ _ rfl, if_pos (by show (6 : Int) = 6; rfl)]
  · rw [if_neg hl]
    have hpos : 0 < (escX l).length := by
      cases l with
      | nil => exact absurd rfl hl
      | cons c l =>
        unfold escX
        rw [List.flatMap_cons, List.length_append]
        have : 0 < (escX1 c).length := by unfold escX1; split <;> (try split) <;> simp
        omega
    have hno : (escX l)[0]? ≠ some 60 := fun e => escX_no l 60 (List.mem_of_getElem? e) rfl
    have htx := text_esc false l [] true
    simp only [List.nil_append, List.length_nil] at htx
    have hn1 : nextL (escX l) startL = (txtT l, ⟨(escX l).length, 1, false, ⟨#[]⟩⟩) := by
      unfold nextL
      rw [if_neg (by show ¬ _ ≤ 0; omega), if_neg (by decide), if_neg (by decide)]
      show ((dataX (escX l) false 0).1, afterL startL (dataX (escX l) false 0)) = _
      rw [dataX_step _ _ 0 (Nat.zero_le _), if_neg (by omega), readT_no hno, readM_no false hno, if_neg (by decide), if_neg (by simp), if_pos rfl, htx]
      rfl
    have hg1 : goL (escX l) startL = ⟨(escX l).length, 1, false, ⟨#[]⟩⟩ := by
      unfold goL
      rw [hn1, if_neg (by show ¬ (4 : Int) = 2; decide)]
    rw [tokensL_toks, toksL_step _ _ (Nat.zero_le _), hn1, if_neg (by show ¬ (4 : Int) = 6; decide), hg1, toksL_step _ _ (Nat.le_refl _), heof _ _ rfl, if_pos (by show (6 : Int) = 6; rfl)]
end Go.Proofs.YtdjeajbinpgpiaaGreat

namespace Go.Proofs.YtdjeajbinpgpiaaGreat

theorem any_no {x : List UInt8} {j : Nat} {c : UInt8} {p : UInt8 → Bool} (h : x[j]? = some c) (hp : p c = false) : ¬ (x[j]?).any p = true := by
  rw [h]
  show ¬ p c = true
  rw [hp]; decide
/-- No letter behind '<' or '</': no tag. -/
theorem readT_none {x : List UInt8} {k : Nat} (h : ¬ (x[fromT x k]?).any letterB = true) : readT x k = (noTg, (k : Int), false) := by
  unfold readT
  rw [if_neg (by omega), Int.toNat_natCast]
  split
  · unfold tagT
    rw [if_neg h]
  · rfl
theorem from_plain {x : List UInt8} {k : Nat} {c : UInt8} (h : x[k + 1]? = some c) (hc : c ≠ 47) : fromT x k = k + 1 := by
  unfold fromT
  rw [if_neg]
  intro he
  have := occ_get (l := x) (sub := [60, 47]) (k := k) (i := 1) he (by simp)
  rw [h] at this
  exact hc (Option.some.inj this)
theorem fold_one {x r : List UInt8} {k : Nat} {c : UInt8} (hc : lowB c = c) (hd : ¬ (97 ≤ c.toNat ∧ c.toNat ≤ 122)) (h : foldL x (60 :: c :: r) k = true) : x[k + 1]? = some c := by
  have h1 := occ_get (l := lowL x) (sub := lowL (60 :: c :: r)) (k := k) (i := 1) h (by simp [lowL])
  have h2 : (lowL x)[k + 1]? = some (lowB c) := h1
  unfold lowL at h2
  rw [List.getElem?_map] at h2
  cases hx : x[k + 1]? with
  | none => rw [hx] at h2; cases h2
  | some d =>
    rw [hx] at h2
    have h3 : lowB d = lowB c := Option.some.inj h2
    rw [hc] at h3
    rw [low_only h3 hd]
/-- Where a mark stands no tag stands. -/
theorem mark_no_tag {x : List UInt8} {k : Nat} {fo : Bool} (h : (readM x k fo).2.2 = true) : readT x k = (noTg, (k : Int), false) := by
  have bang : x[k + 1]? = some 33 → readT x k = (noTg, (k : Int), false) := fun e => readT_none (by rw [from_plain e (by decide)]; exact any_no e (by decide))
  have ques : x[k + 1]? = some 63 → readT x k = (noTg, (k : Int), false) := fun e => readT_none (by rw [from_plain e (by decide)]; exact any_no e (by decide))
  have slash : endsAt x k = true → fromT x k = k + 2 := fun e => by unfold fromT; rw [if_pos e]
  unfold readM at h
  split at h
  · cases h
  rw [Int.toNat_natCast] at h
  split at h
  · rename_i h1
    exact bang (occ_get (i := 1) h1 (by decide))
  split at h
  · rename_i h1
    exact bang (fold_one (by decide) (by decide) h1)
  split at h
  · rename_i h1
    rw [Bool.and_eq_true] at h1
    exact bang (occ_get (i := 1) h1.2 (by decide))
  split at h
  · rename_i h1
    exact bang (occ_get (i := 1) h1 (by decide))
  split at h
  · rename_i h1
    exact ques (occ_get (i := 1) h1 (by decide))
  split at h
  · rename_i h1
    have e1 : x[k + 1]? = some 47 := occ_get (i := 1) h1 (by decide)
    have e2 : x[k + 2]? = some 62 := occ_get (i := 2) h1 (by decide)
    by_cases he : endsAt x k = true
    · exact readT_none (by rw [slash he]; exact any_no e2 (by decide))
    · exact readT_none (by unfold fromT; rw [if_neg he]; exact any_no e1 (by decide))
  split at h
  · rename_i h1
    rw [Bool.and_eq_true] at h1
    refine readT_none ?_
    rw [slash h1.1]
    have h2 := h1.2
    unfold noLetterAt at h2
    cases hc : x[k + 2]? with
    | none => simp
    | some c =>
      rw [hc] at h2
      show ¬ letterB c = true
      simpa using h2
  · cases h
/-- A tag where one is known to begin: the token and the place behind it; without an end all is over. -/
def tagX (x : List UInt8) (k : Nat) : Tk × Nat := if (readT x k).2.2 = true then (tgTk (readT x k).1, (readT x k).2.1.toNat) else (eofT, x.length)
/-- The reference asks in another order. -/
theorem dataX_ref (x : List UInt8) (fo : Bool) (k : Nat) (hk : k ≤ x.length) : dataX x fo k =
    if x.length ≤ k then (eofT, x.length)
    else if ¬ (x[k]? = some 60 ∧ markedX x fo k = true) then (txtT (textX x fo k true).1, (textX x fo k true).2)
    else if (readM x k fo).2.2 = true then (if (readM x k fo).1.kind ≠ 0 then (tmTk (readM x k fo).1, (readM x k fo).2.1.toNat) else dataX x fo (readM x k fo).2.1.toNat)
    else tagX x k := by
  rw [dataX_step x fo k hk]
  by_cases h0 : x.length ≤ k
  · rw [if_pos h0, if_pos h0]
  rw [if_neg h0, if_neg h0]
  by_cases h60 : x[k]? = some 60
  · by_cases hm : (readM x k fo).2.2 = true
    · have hmk : markedX x fo k = true := by unfold markedX; rw [hm]; rfl
      rw [if_neg (show ¬ ¬ (x[k]? = some 60 ∧ markedX x fo k = true) from fun n => n ⟨h60, hmk⟩), if_pos hm]
      rw [mark_no_tag hm, if_neg (by simp), if_neg (by simp), if_neg (by rw [hm]; simp)]
    · have hm' : (readM x k fo).2.2 = false := by simpa using hm
      by_cases ht : (readT x k).2.2 = true
      · have hmk : markedX x fo k = true := by unfold markedX; rw [ht]; simp
        rw [if_neg (show ¬ ¬ (x[k]? = some 60 ∧ markedX x fo k = true) from fun n => n ⟨h60, hmk⟩), if_pos ht, if_neg hm]
        unfold tagX
        rw [if_pos ht]
      · by_cases hn : (readT x k).2.1 ≠ (k : Int)
        · have hmk : markedX x fo k = true := by
            unfold markedX
            rw [bne_iff_ne.2 hn]; simp
          rw [if_neg (show ¬ ¬ (x[k]? = some 60 ∧ markedX x fo k = true) from fun n => n ⟨h60, hmk⟩), if_neg ht, if_pos hn, if_neg hm]
          unfold tagX
          rw [if_neg ht]
        · have hmk : ¬ markedX x fo k = true := by
            unfold markedX
            have e1 : (readT x k).2.1 = (k : Int) := Classical.not_not.1 hn
            have e2 : (readT x k).2.2 = false := by simpa using ht
            rw [hm', e2, e1]; simp
          rw [if_pos (show ¬ (x[k]? = some 60 ∧ markedX x fo k = true) from fun n => hmk n.2), if_neg ht, if_neg hn, if_pos hm']
  · rw [if_pos (show ¬ (x[k]? = some 60 ∧ markedX x fo k = true) from fun n => h60 n.1), readT_no h60, readM_no fo h60, if_neg (by simp), if_neg (by simp), if_pos rfl]
/-- The last Start's name: none, or it begins with a letter. -/
def StOk (s : Lx) : Prop := s.st = ⟨#[]⟩ ∨ ((B s.st)[0]?).any letterB = true
theorem letter_of_low {c : UInt8} (h : letterB (lowB c) = true) : letterB c = true := by
  have h1 := lowB_toNat c
  unfold letterB at h ⊢
  simp only [Bool.or_eq_true, Bool.and_eq_true, decide_eq_true_eq] at h ⊢
  split at h1 <;> omega
/-- Where raw text ends nothing but a tag stands. -/
theorem ends_tag {x : List UInt8} {s : Lx} (fo : Bool) {k : Nat} (hs : StOk s) (hk : k < x.length) (h : endsX x (B s.st) k = true) : dataX x fo k = tagX x k := by
  have hocc := ends_starts h
  have h60 : x[k]? = some 60 := by
    have := occ_get (l := x) (sub := [60, 47]) (k := k) (i := 0) hocc (by simp)
    exact this
  have hne : s.st ≠ ⟨#[]⟩ := fun e => by
    unfold endsX at h
    rw [e, Bool.and_eq_true] at h
    exact absurd (of_decide_eq_true h.1) (by intro n; exact n rfl)
  obtain ⟨c0, hc0, hp0⟩ := any_at (hs.resolve_left hne)
  have hf : foldL x (60 :: 47 :: B s.st) k = true := by
    unfold endsX at h
    rw [Bool.and_eq_true, Bool.and_eq_true] at h
    exact h.2.1
  have hlt0 := lt_of_at hc0
  have h1 := occ_get (l := lowL x) (sub := lowL (60 :: 47 :: B s.st)) (k := k) (i := 2) hf (by simp [lowL]; omega)
  have h2 : (lowL x)[k + 2]? = some (lowB c0) := by
    rw [h1]
    unfold lowL
    rw [List.getElem?_map]
    show Option.map lowB ((B s.st)[0]?) = _
    rw [hc0]; rfl
  have h3 : (x[k + 2]?).any letterB = true := by
    unfold lowL at h2
    rw [List.getElem?_map] at h2
    cases hx : x[k + 2]? with
    | none => rw [hx] at h2; cases h2
    | some d =>
      rw [hx] at h2
      have h4 : lowB d = lowB c0 := Option.some.inj h2
      show letterB d = true
      exact letter_of_low (by rw [h4]; exact letter_low hp0)
  have hfr : fromT x k = k + 2 := by unfold fromT endsAt startsL; rw [if_pos hocc]
  rw [dataX_step x fo k (by omega), if_neg (by omega)]
  unfold tagX
  by_cases ht : (readT x k).2.2 = true
  · rw [if_pos ht, if_pos ht]
  · rw [if_neg ht, if_neg ht, if_pos]
    intro e
    have hrd : readT x k = tagT x k := by
      unfold readT
      rw [if_neg (by omega), Int.toNat_natCast, if_pos (by rw [List.head?_drop]; exact h60)]
    rw [hrd] at e ht
    unfold tagT at e ht
    rw [if_pos (by rw [hfr]; exact h3)] at e ht
    cases hr : restT x (nameL x (fromT x k)) [] false with
    | none =>
      rw [hr] at e
      have e : (x.length : Int) = (k : Int) := e
      omega
    | some r =>
      rw [hr] at ht
      exact ht rfl
theorem stOk_start : StOk startL := .inl rfl
theorem stOk_set {s : Lx} (m : Int) (h : StOk s) : StOk (setL s m) := h
theorem tag_first {a : List UInt8} {k : Nat} (ht : (readT a k).2.2 = true) : ((readT a k).1.name[0]?).any letterB = true := by
  obtain ⟨_, h2, al, sf, m, _, h4⟩ := tag_at ht
  obtain ⟨c0, hc0, hp0⟩ := any_at h2
  have hg : fromT a k + 1 ≤ nameL a (fromT a k) := by
    obtain ⟨hlt, e⟩ := List.getElem?_eq_some_iff.1 hc0
    unfold nameL untilL
    rw [← stopL_step _ a _ hlt (by rw [e]; show (!hasB endsN c0) = true; rw [letter_end hp0]; rfl)]
    exact stopL_ge _ _ _
  have e : (readT a k).1.name = lowL (pieceL a (fromT a k) (nameL a (fromT a k))) := by rw [h4]; simp only; split <;> rfl
  rw [e]
  unfold lowL
  rw [List.getElem?_map]
  have : (pieceL a (fromT a k) (nameL a (fromT a k)))[0]? = some c0 := by
    unfold pieceL
    rw [List.getElem?_take, if_pos (by omega), List.getElem?_drop, Nat.add_zero, hc0]
  rw [this]
  exact letter_low hp0
/-- A Start's name begins with a letter. -/
theorem dataX_first (x : List UInt8) (fo : Bool) : ∀ (d k : Nat), x.length - k = d → k ≤ x.length → (dataX x fo k).1.kd = 2 → ((B (dataX x fo k).1.nm)[0]?).any letterB = true := fun d => by
  induction d using Nat.strongRecOn with
  | _ d ih =>
    intro k hd hk
    rw [dataX_step x fo k hk]
    split
    · intro h; exact absurd h (by show ¬ (6 : Int) = 2; decide)
    rename_i h0
    split
    · rename_i h1
      intro _
      show ((B (S (readT x k).1.name))[0]?).any letterB = true
      rw [B_S]
      exact tag_first h1
    split
    · intro h; exact absurd h (by show ¬ (6 : Int) = 2; decide)
    split
    · intro h; exact absurd h (by show ¬ (4 : Int) = 2; decide)
    rename_i h1 _ h4
    obtain ⟨n, hn, h5, h6⟩ := readM_some (x := x) (k := k) (fo := fo) (by omega) (by simpa using h4)
    split
    · intro h
      have h : (readM x k fo).1.kind = 2 := h
      rcases tm_kinds x k fo with e | e | e | e <;> rw [e] at h <;> exact absurd h (by decide)
    · rw [hn, Int.toNat_natCast]
      exact ih (x.length - n) (by omega) n rfl h6
theorem stOk_next (x : List UInt8) (s : Lx) (hs : s.at_ ≤ x.length) (h : StOk s) : StOk (nextL x s).2 := by
  have hd : ∀ s' : Lx, s'.st = s.st → StOk (afterL s' (dataX x s.fo s.at_)) := fun s' e => by
    unfold afterL StOk
    simp only
    split
    · rename_i h2
      exact .inr (dataX_first x s.fo _ s.at_ rfl hs h2)
    · rw [e]; exact h
  unfold nextL
  split
  · exact h
  split
  · split
    · exact hd _ rfl
    · exact h
  split
  · exact h
  · exact hd s rfl
end Go.Proofs.YtdjeajbinpgpiaaGreat
