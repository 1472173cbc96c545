/- What Read answers, by places: plain lists. No program in sight. -/
import Derived.Test.YtmlaaonmofgidaaRefL
namespace Go.Proofs.Ytmlaaonmofgidaa
open Go.RowKit

theorem fold_drop (l sub : List UInt8) (k : Nat) : foldL l sub k = foldL (l.drop k) sub 0 := by
  unfold foldL
  rw [← lowL_drop, occ_drop]
  rfl
theorem starts_drop (l sub : List UInt8) (k : Nat) : startsL l sub k = startsL (l.drop k) sub 0 := by
  unfold startsL
  rw [occ_drop]
  rfl
theorem stop_drop (p : UInt8 → Bool) (l : List UInt8) (k a : Nat) : stopL p l (k + a) = k + a + (((l.drop k).drop a).takeWhile p).length := by
  unfold stopL
  rw [List.drop_drop]
theorem readR_at (attr : Bool) (l : List UInt8) (k : Nat) (h : (l.drop k).head? = some 38) : readR l (k : Int) attr = ((refS attr (l.drop k)).1, ((k + (refS attr (l.drop k)).2 : Nat) : Int)) := by
  unfold readR
  rw [if_neg (by omega), if_pos (by rw [Int.toNat_natCast]; exact h), Int.toNat_natCast]
  simp
theorem readR_no (attr : Bool) (l : List UInt8) (k : Int) (h : k < 0 ∨ (l.length : Int) ≤ k ∨ (0 ≤ k ∧ ∃ c, l[k.toNat]? = some c ∧ c ≠ 38)) : readR l k attr = ([], k) := by
  unfold readR
  rcases h with h | h | ⟨h, c, hc, hne⟩
  · rw [if_pos h]
  · by_cases h0 : k < 0
    · rw [if_pos h0]
    · rw [if_neg h0, if_neg]
      rw [List.drop_eq_nil_of_le (by omega)]
      simp
  · rw [if_neg (by omega), if_neg]
    rw [List.head?_drop, hc]
    intro e; cases e; exact hne rfl
theorem num_none {pre base : Nat} {l : List UInt8} {k : Nat} (h : stopL (digB base) l (k + pre) = k + pre) : numS pre base (l.drop k) = ([38], 1) := by
  rw [stop_drop] at h
  unfold numS
  simp only
  rw [if_pos (List.eq_nil_of_length_eq_zero (by omega))]
theorem num_some {pre base : Nat} {l : List UInt8} {k e : Nat} (h : stopL (digB base) l (k + pre) = e) (hne : e ≠ k + pre) :
    ∃ n : Nat, numS pre base (l.drop k) = (numberS (numL base (pieceL l (k + pre) e)), n) ∧ k + n = e + (if startsL l [59] e = true then 1 else 0) := by
  have hd : pieceL l (k + pre) e = (((l.drop k).drop pre).takeWhile (digB base)) := by rw [← h, piece_stop, List.drop_drop]
  rw [stop_drop] at h
  unfold numS
  simp only
  rw [if_neg (by intro e0; rw [e0] at h; simp at h; omega), hd]
  generalize ((l.drop k).drop pre).takeWhile (digB base) = d at *
  refine ⟨_, rfl, ?_⟩
  rw [List.drop_drop, ← Nat.add_assoc, ← Nat.add_assoc, h]
  have hs : (startsL l [59] e = true) = ((l.drop e).head? = some 59) := by
    unfold startsL Lib.occAt
    cases l.drop e with
    | nil => simp
    | cons c r =>
      show ((59 == c && List.isPrefixOf [] r) = true) = _
      rw [show List.isPrefixOf [] r = true from rfl, Bool.and_true]
      simp only [beq_iff_eq, List.head?_cons, Option.some.injEq, eq_iff_iff]
      exact eq_comm
  simp only [hs]
theorem refS_hex {attr : Bool} {l : List UInt8} {k : Nat} (h : foldL l [38, 35, 120] k = true) : refS attr (l.drop k) = numS 3 16 (l.drop k) := by
  rw [fold_drop] at h; unfold refS; rw [if_pos h]
theorem refS_ten {attr : Bool} {l : List UInt8} {k : Nat} (h : foldL l [38, 35, 120] k = false) (h2 : startsL l [38, 35] k = true) : refS attr (l.drop k) = numS 2 10 (l.drop k) := by
  rw [fold_drop] at h; rw [starts_drop] at h2; unfold refS; rw [if_neg (by rw [h]; decide), if_pos h2]
theorem refS_name {attr : Bool} {l : List UInt8} {k : Nat} (h : foldL l [38, 35, 120] k = false) (h2 : startsL l [38, 35] k = false) : refS attr (l.drop k) = nameS attr (l.drop k) := by
  rw [fold_drop] at h; rw [starts_drop] at h2; unfold refS; rw [if_neg (by rw [h]; decide), if_neg (by rw [h2]; decide)]
theorem name_none {attr : Bool} {l : List UInt8} {k : Nat} {r : ByteArray × ByteArray} (hr : namedR (l.drop (k + 1)) = r) (h : r.1.size = 0) : nameS attr (l.drop k) = ([38], 1) := by
  unfold nameS; simp only; rw [List.drop_drop, hr, if_pos h]
theorem name_plain {attr : Bool} {l : List UInt8} {k : Nat} {r : ByteArray × ByteArray} (hr : namedR (l.drop (k + 1)) = r) (h : r.1.size ≠ 0) (hc : (attr && l[k + r.1.size]? != some 59 && (l[k + 1 + r.1.size]?).any wordB) = false) : nameS attr (l.drop k) = (B r.2, 1 + r.1.size) := by
  unfold nameS; simp only
  rw [List.drop_drop, hr, if_neg h, List.getElem?_drop, List.getElem?_drop, ← Nat.add_assoc, if_neg (by rw [hc]; decide)]
theorem name_left {attr : Bool} {l : List UInt8} {k : Nat} {r : ByteArray × ByteArray} (hr : namedR (l.drop (k + 1)) = r) (h : r.1.size ≠ 0) (hc : (attr && l[k + r.1.size]? != some 59 && (l[k + 1 + r.1.size]?).any wordB) = true) : nameS attr (l.drop k) = (pieceL l k (k + 1 + r.1.size), 1 + r.1.size) := by
  unfold nameS; simp only
  rw [List.drop_drop, hr, if_neg h, List.getElem?_drop, List.getElem?_drop, ← Nat.add_assoc, if_pos hc]
  unfold pieceL
  rw [show k + 1 + r.1.size - k = 1 + r.1.size by omega]
end Go.Proofs.Ytmlaaonmofgidaa
