/- What was told goes on, and is told the same with anything behind it: the reading, whole. No program in sight. -/
import Derived.Test.YtjghkiphfpeocaaMarkGoesL
namespace Go.Proofs.Ytjghkiphfpeocaa
open Go.RowKit

theorem read_zero (l : List UInt8) (fo : Bool) (h : 0 < l.length) : readM l 0 fo = if startsL l beginA 0 = true then commentM l 4
    else if foldL l beginD 0 = true then doctypeM l 9
    else if (fo && startsL l beginC 0) = true then dataM l 9
    else if startsL l [60, 33] 0 = true then rubbishM l 2
    else if startsL l [60, 63] 0 = true then rubbishM l 1
    else if startsL l [60, 47, 62] 0 = true then (noTm, 3, true)
    else if (startsL l [60, 47] 0 && noLetterAt l 2) = true then rubbishM l 2
    else (noTm, 0, false) := by
  unfold readM
  rw [if_neg (by omega)]
  rfl
theorem read_local {n : Nat} {a b : List UInt8} (h : Alike n a b) (fo : Bool) (h0 : 0 < n) (hc : a[n - 1]? = some 62) (he : Ended a (readM a 0 fo) n) (hok : (readM a 0 fo).2.2 = true) (h6 : startsL a [60, 47, 62] 0 = false) : readM b 0 fo = readM a 0 fo := by
  have hna := h.ha
  have hnb := h.hb
  rw [read_zero a fo (by omega)] at he hok ⊢
  rw [read_zero b fo (by omega)]
  rw [h.starts beginA 0 h0 hc (by decide), h.fold beginD 0 h0 hc (by decide), h.starts beginC 0 h0 hc (by decide), h.starts [60, 33] 0 h0 hc (by decide), h.starts [60, 63] 0 h0 hc (by decide), h.starts [60, 47] 0 h0 hc (by decide)]
  have len : ∀ sub : List UInt8, startsL a sub 0 = true → sub.length ≤ a.length := fun sub hs => by have := starts_len (Nat.zero_le _) hs; omega
  cases p1 : startsL a beginA 0 with
  | true =>
    rw [p1, if_pos rfl] at he
    rw [if_pos rfl, if_pos rfl]
    exact comment_local h 4 (len _ p1) he
  | false =>
    cases p2 : foldL a beginD 0 with
    | true =>
      rw [p1, p2, if_neg (ne_of_f rfl), if_pos rfl] at he
      rw [if_neg (ne_of_f rfl), if_pos rfl, if_neg (ne_of_f rfl), if_pos rfl]
      exact doctype_local h 9 (by have := fold_len (Nat.zero_le _) p2; rw [show beginD.length = 9 from rfl] at this; omega) he
    | false =>
      cases p3 : (fo && startsL a beginC 0) with
      | true =>
        rw [p1, p2, p3, if_neg (ne_of_f rfl), if_neg (ne_of_f rfl), if_pos rfl] at he
        simp only [Bool.false_eq_true, if_false, if_true]
        rw [Bool.and_eq_true] at p3
        exact data_local h 9 (len _ p3.2) he
      | false =>
        cases p4 : startsL a [60, 33] 0 with
        | true =>
          rw [p1, p2, p3, p4, if_neg (ne_of_f rfl), if_neg (ne_of_f rfl), if_neg (ne_of_f rfl), if_pos rfl] at he
          simp only [Bool.false_eq_true, if_false, if_true]
          exact rubbish_local h 2 (len _ p4) he
        | false =>
          cases p5 : startsL a [60, 63] 0 with
          | true =>
            rw [p1, p2, p3, p4, p5, if_neg (ne_of_f rfl), if_neg (ne_of_f rfl), if_neg (ne_of_f rfl), if_neg (ne_of_f rfl), if_pos rfl] at he
            simp only [Bool.false_eq_true, if_false, if_true]
            exact rubbish_local h 1 (by have := len _ p5; have : 2 ≤ a.length := this; omega) he
          | false =>
            rw [p1, p2, p3, p4, p5, h6] at he hok
            simp only [Bool.false_eq_true, if_false] at he hok
            cases p7 : (startsL a [60, 47] 0 && noLetterAt a 2) with
            | false => rw [p7] at hok; simp at hok
            | true =>
              rw [p7, if_pos rfl] at he
              have p7' := p7
              rw [Bool.and_eq_true] at p7'
              have h2 : 2 ≤ a.length := len _ p7'.1
              have hbe := behind_ended (i := 2) he.1 he.2
              have hge := findL_ge a [62] 2 h2
              have e6 : startsL b [60, 47, 62] 0 = false := (h.occ [60, 47, 62] 0 (by show 0 + 3 ≤ n; omega)).trans h6
              have e8 : noLetterAt b 2 = noLetterAt a 2 := by unfold noLetterAt; rw [h.at 2 (by omega)]
              rw [e6, h6, e8, p7]
              simp only [Bool.false_eq_true, if_false, if_true]
              exact rubbish_local h 2 h2 he

/-- What is told of a mark is right. -/
def OkT (t : Tm) : Prop := t.kind = 0 ∨ (t.kind = 5 ∧ t.name = []) ∨ (t.kind = 4 ∧ t.name = [] ∧ t.text ≠ []) ∨ (t.kind = 1 ∧ t.text = [] ∧ lowL t.name = t.name)
def OkR (l : List UInt8) (r : Mk) : Prop := OkT r.1 ∧ (∃ n : Nat, r.2.1 = (n : Int) ∧ 2 ≤ n ∧ n ≤ l.length) ∧ r.2.2 = true
theorem lowB_low (c : UInt8) : lowB (lowB c) = lowB c := by
  apply UInt8.toNat_inj.1
  rw [lowB_toNat (lowB c), lowB_toNat c]
  repeat' split
  all_goals omega
theorem lowL_low (l : List UInt8) : lowL (lowL l) = lowL l := by
  unfold lowL
  rw [List.map_map]
  exact List.map_congr_left fun c _ => lowB_low c
theorem ok_rubbish (l : List UInt8) (i : Nat) (h1 : 1 ≤ i) (hi : i ≤ l.length) (h2 : 2 ≤ l.length) : OkR l (rubbishM l i) := by
  have := findL_ge l [62] i hi
  refine ⟨.inr (.inl ⟨rfl, rfl⟩), ⟨behindL l i, rfl, ?_, ?_⟩, rfl⟩
  · unfold behindL; omega
  · unfold behindL; omega
theorem ok_doctype (l : List UInt8) (hi : 9 ≤ l.length) : OkR l (doctypeM l 9) := by
  have g1 := stopL_le spaceB l 9 hi
  have g2 := stopL_le (fun c => !hasB endD c) l (skipL l 9) g1
  have g3 : 9 ≤ skipL l 9 := stopL_ge spaceB l 9
  have g4 : skipL l 9 ≤ untilL l endD (skipL l 9) := stopL_ge (fun c => !hasB endD c) l (skipL l 9)
  have g5 := findL_ge l [62] (untilL l endD (skipL l 9)) g2
  refine ⟨.inr (.inr (.inr ⟨rfl, rfl, lowL_low _⟩)), ⟨behindL l (untilL l endD (skipL l 9)), rfl, ?_, ?_⟩, rfl⟩
  · unfold behindL; omega
  · unfold behindL; omega
theorem ok_data (l : List UInt8) (hi : 9 ≤ l.length) : OkR l (dataM l 9) := by
  have g := findL_ge l endC 9 hi
  have g' := findL_le l endC 9 hi
  refine ⟨?_, ⟨min (findL l endC 9 + 3) l.length, rfl, by omega, by omega⟩, rfl⟩
  show OkT (if findL l endC 9 = 9 then noTm else ⟨4, [], pieceL l 9 (findL l endC 9)⟩)
  by_cases e : findL l endC 9 = 9
  · rw [if_pos e]; exact .inl rfl
  · rw [if_neg e]
    refine .inr (.inr (.inl ⟨rfl, rfl, fun h => ?_⟩))
    have := pieceL_len l 9 (findL l endC 9) g g'
    have h : pieceL l 9 (findL l endC 9) = [] := h
    rw [h] at this
    simp at this
    omega
theorem ok_comment (l : List UInt8) (hi : 4 ≤ l.length) : OkR l (commentM l 4) := by
  have a1 := findL_le l endA 4 hi
  have b1 := findL_le l endB 4 hi
  have a0 := findL_ge l endA 4 hi
  have b0 := findL_ge l endB 4 hi
  unfold commentM
  by_cases p1 : startsL l [62] 4 = true
  · rw [if_pos p1]
    exact ⟨.inr (.inl ⟨rfl, rfl⟩), ⟨5, rfl, by omega, starts_len hi p1⟩, rfl⟩
  rw [if_neg p1]
  by_cases p2 : startsL l [45, 62] 4 = true
  · rw [if_pos p2]
    exact ⟨.inr (.inl ⟨rfl, rfl⟩), ⟨6, rfl, by omega, starts_len hi p2⟩, rfl⟩
  rw [if_neg p2]
  by_cases hab : findL l endA 4 < findL l endB 4
  · rw [if_pos hab]
    have := starts_len (sub := endA) a1 (find_occ hi (by omega))
    exact ⟨.inr (.inl ⟨rfl, rfl⟩), ⟨findL l endA 4 + 3, rfl, by omega, this⟩, rfl⟩
  rw [if_neg hab]
  by_cases hba : findL l endB 4 < findL l endA 4
  · rw [if_pos hba]
    have := starts_len (sub := endB) b1 (find_occ hi (by omega))
    exact ⟨.inr (.inl ⟨rfl, rfl⟩), ⟨findL l endB 4 + 4, rfl, by omega, this⟩, rfl⟩
  rw [if_neg hba]
  exact ⟨.inr (.inl ⟨rfl, rfl⟩), ⟨l.length, rfl, by omega, Nat.le_refl _⟩, rfl⟩
/-- A beginning of a mark. -/
def Began (l : List UInt8) : Prop := startsL l [60, 33] 0 = true ∨ startsL l [60, 63] 0 = true ∨ startsL l [60, 47, 32] 0 = true
theorem began_no6 {l : List UInt8} (h : Began l) : startsL l [60, 47, 62] 0 = false := by
  cases h6 : startsL l [60, 47, 62] 0 with
  | false => rfl
  | true =>
    have x1 := occ_get (i := 1) h6 (by decide)
    have x2 := occ_get (i := 2) h6 (by decide)
    rcases h with h | h | h
    · have := occ_get (i := 1) h (by decide)
      rw [x1] at this
      exact absurd this (by decide)
    · have := occ_get (i := 1) h (by decide)
      rw [x1] at this
      exact absurd this (by decide)
    · have := occ_get (i := 2) h (by decide)
      rw [x2] at this
      exact absurd this (by decide)
theorem began_len {l : List UInt8} (h : Began l) : 2 ≤ l.length := by
  rcases h with h | h | h
  · have := starts_len (Nat.zero_le _) h; have : 0 + 2 ≤ l.length := this; omega
  · have := starts_len (Nat.zero_le _) h; have : 0 + 2 ≤ l.length := this; omega
  · have := starts_len (Nat.zero_le _) h; have : 0 + 3 ≤ l.length := this; omega
theorem began_ok {l : List UInt8} (h : Began l) (fo : Bool) : OkR l (readM l 0 fo) := by
  have hl := began_len h
  have h6 := began_no6 h
  have len : ∀ sub : List UInt8, startsL l sub 0 = true → sub.length ≤ l.length := fun sub hs => by have := starts_len (Nat.zero_le _) hs; omega
  rw [read_zero l fo (by omega)]
  by_cases p1 : startsL l beginA 0 = true
  · rw [if_pos p1]; exact ok_comment l (len _ p1)
  rw [if_neg p1]
  by_cases p2 : foldL l beginD 0 = true
  · rw [if_pos p2]; exact ok_doctype l (by have := fold_len (Nat.zero_le _) p2; rw [show beginD.length = 9 from rfl] at this; omega)
  rw [if_neg p2]
  by_cases p3 : (fo && startsL l beginC 0) = true
  · rw [if_pos p3]; rw [Bool.and_eq_true] at p3; exact ok_data l (len _ p3.2)
  rw [if_neg p3]
  by_cases p4 : startsL l [60, 33] 0 = true
  · rw [if_pos p4]; exact ok_rubbish l 2 (by omega) hl hl
  rw [if_neg p4]
  by_cases p5 : startsL l [60, 63] 0 = true
  · rw [if_pos p5]; exact ok_rubbish l 1 (by omega) (by omega) hl
  rw [if_neg p5, if_neg (ne_of_f h6)]
  rcases h with h | h | h
  · exact absurd h p4
  · exact absurd h p5
  · have p7 : (startsL l [60, 47] 0 && noLetterAt l 2) = true := by
      rw [Bool.and_eq_true]
      refine ⟨starts_pre (b := [32]) h, ?_⟩
      have := occ_get (i := 2) h (by decide)
      unfold noLetterAt
      rw [show 0 + 2 = 2 from rfl] at this
      rw [this]
      decide
    rw [if_pos p7]
    exact ok_rubbish l 2 (by omega) hl hl
end Go.Proofs.Ytjghkiphfpeocaa
