/- In raw text nothing but its own end tag is markup: the plain law. No program in sight. -/
import Derived.Test.YtdjeajbinpgpiaaLexPl
namespace Go.Proofs.Ytdjeajbinpgpiaa

def nmS : List UInt8 := [115, 99, 114, 105, 112, 116]
def nmT : List UInt8 := [115, 116, 121, 108, 101]
def nmX : List UInt8 := [120, 109, 112]
def isRw (nm : List UInt8) : Prop := nm = nmS ∨ nm = nmT ∨ nm = nmX
def preR (nm : List UInt8) : List UInt8 := 60 :: (nm ++ [62])
def tlR (nm : List UInt8) : List UInt8 := 60 :: 47 :: (nm ++ [32, 62, 121])
theorem rw_facts {nm : List UInt8} (h : isRw nm) : startsL (tlR nm) [60, 47] 0 = true ∧ ((tlR nm)[2]?).any letterB = true ∧
    (((tlR nm).drop 2).takeWhile (fun c => !hasB [9, 10, 12, 13, 32, 47, 62] c)).length = nm.length ∧ (((tlR nm).drop (nm.length + 2)).takeWhile spaceB).length = 1 ∧
    (tlR nm)[nm.length + 3]? = some 62 ∧ lowL (((tlR nm).drop 2).take nm.length) = nm ∧ foldL (tlR nm) (60 :: 47 :: nm) 0 = true ∧
    ((tlR nm)[2 + nm.length]?).any (fun c => hasB [9, 10, 12, 13, 32, 47, 62] c) = true ∧ (tlR nm)[nm.length + 4]? = some 121 ∧ (tlR nm).length = nm.length + 5 ∧
    (readT (preR nm) 0).1.kind = 2 ∧ (readT (preR nm) 0).1.name = nm ∧ (readT (preR nm) 0).1.attrs = [] ∧ (readT (preR nm) 0).1.self = false ∧ (readT (preR nm) 0).2.1 = ((nm.length + 2 : Nat) : Int) ∧ (readT (preR nm) 0).2.2 = true ∧
    rawMode (S nm) = 3 ∧ nm ≠ [] := by
  rcases h with rfl | rfl | rfl
  · exact ⟨by decide +kernel, by decide +kernel, by decide +kernel, by decide +kernel, by decide +kernel, by decide +kernel, by decide +kernel, by decide +kernel, by decide +kernel, by decide +kernel, by decide +kernel, by decide +kernel, by rfl, by decide +kernel, by decide +kernel, by decide +kernel, by decide +kernel, by decide⟩
  · exact ⟨by decide +kernel, by decide +kernel, by decide +kernel, by decide +kernel, by decide +kernel, by decide +kernel, by decide +kernel, by decide +kernel, by decide +kernel, by decide +kernel, by decide +kernel, by decide +kernel, by rfl, by decide +kernel, by decide +kernel, by decide +kernel, by decide +kernel, by decide⟩
  · exact ⟨by decide +kernel, by decide +kernel, by decide +kernel, by decide +kernel, by decide +kernel, by decide +kernel, by decide +kernel, by decide +kernel, by decide +kernel, by decide +kernel, by decide +kernel, by decide +kernel, by rfl, by decide +kernel, by decide +kernel, by decide +kernel, by decide +kernel, by decide⟩
theorem rawEnd_at (x st : List UInt8) (j : Nat) (hj : j < x.length) (he : endsX x st j = true) : ∀ d i, j - i = d → i ≤ j → (∀ k, i ≤ k → k < j → endsX x st k = false) → rawEnd x st i = j := fun d => by
  induction d with
  | zero =>
    intro i h1 h2 h3
    obtain rfl : i = j := by omega
    rw [rawEnd_step x st i (by omega), if_neg (by omega), if_pos he]
  | succ d ih =>
    intro i h1 h2 h3
    rw [rawEnd_step x st i (by omega), if_neg (by omega), if_neg (by rw [h3 i (Nat.le_refl _) (by omega)]; decide)]
    exact ih (i + 1) (by omega) (by omega) (fun k h4 h5 => h3 k (by omega) h5)
theorem toks_raw (nm z : List UInt8) (h : isRw nm) (hz0 : z ≠ []) (hz : ∀ c ∈ z, c ≠ 47) :
    tokensL (preR nm ++ (z ++ tlR nm)) = [⟨2, S nm, [], false, ⟨#[]⟩⟩, txtT z, ⟨3, S nm, [], false, ⟨#[]⟩⟩, txtT [121], eofT] := by
  obtain ⟨f1, f2, f3, f4, f5, f6, f7, f8, f9, f10, r1, r2, r3, r4, r5, r6, hm, hne⟩ := rw_facts h
  have hpl : (preR nm).length = nm.length + 2 := by unfold preR; simp
  have hzl : 0 < z.length := List.length_pos_iff.2 hz0
  obtain ⟨X, hX⟩ : ∃ X, preR nm ++ (z ++ tlR nm) = X := ⟨_, rfl⟩
  have hlen : X.length = nm.length + 2 + z.length + (nm.length + 5) := by rw [← hX, List.length_append, List.length_append, hpl, f10]; omega
  obtain ⟨P, hP⟩ : ∃ P, nm.length + 2 = P := ⟨_, rfl⟩
  obtain ⟨K, hK⟩ : ∃ K, P + z.length = K := ⟨_, rfl⟩
  have hdP : X.drop P = z ++ tlR nm := by rw [← hX, ← hP, ← hpl]; exact List.drop_left' rfl
  have hdK : X.drop K = tlR nm := by rw [← hK, ← List.drop_drop, hdP]; exact List.drop_left' rfl
  have hat : ∀ i, X[K + i]? = (tlR nm)[i]? := fun i => by rw [← hdK, List.getElem?_drop]
  have hpiece : pieceL X P K = z := by unfold pieceL; rw [hdP, show K - P = z.length by omega]; exact List.take_left' rfl
  have hr : readT X 0 = readT (preR nm) 0 := tag_same (n := nm.length + 2) (a := preR nm) (b := X) ⟨by rw [hpl]; omega, by omega, by rw [← hX, List.take_append_of_le_length (by rw [hpl]; omega)]⟩ r6 r5
  have hno : ∀ j, P ≤ j → j < K → endsX X nm j = false := fun j h1 h2 => by
    cases he : endsX X nm j with
    | false => rfl
    | true =>
      have ho := occ_get (i := 1) (ends_starts he) (by simp)
      have ho : X[j + 1]? = some 47 := ho
      by_cases hjk : j + 1 = K
      · rw [hjk] at ho
        have := hat 0
        rw [Nat.add_zero, ho] at this
        cases this
      · have h3 : X[P + (j + 1 - P)]? = (z ++ tlR nm)[j + 1 - P]? := by rw [← hdP, List.getElem?_drop]
        rw [show P + (j + 1 - P) = j + 1 by omega, ho, List.getElem?_append_left (by omega)] at h3
        exact absurd rfl (hz 47 (List.mem_of_getElem? h3.symm))
  have hyes : endsX X nm K = true := by
    unfold endsX
    rw [fold_drop, hdK, f7, show X[K + 2 + nm.length]? = (tlR nm)[2 + nm.length]? by rw [Nat.add_assoc]; exact hat _, f8]
    simp [hne]
  have hrw : rawEnd X nm P = K := rawEnd_at X nm K (by omega) hyes _ P rfl (by omega) hno
  have hend : endsAt X K = true := by unfold endsAt; rw [starts_drop, hdK]; exact f1
  have hfrom : fromT X K = K + 2 := by unfold fromT; rw [if_pos hend]
  have hnl : nameL X (K + 2) = K + 2 + nm.length := by
    unfold nameL untilL
    rw [stop_drop, hdK, f3]
  have hsk : skipL X (K + 2 + nm.length) = K + nm.length + 3 := by
    unfold skipL
    rw [show K + 2 + nm.length = K + (nm.length + 2) by omega, stop_drop, hdK, f4]
    omega
  have hpc : lowL (pieceL X (K + 2) (K + 2 + nm.length)) = nm := by
    unfold pieceL
    rw [← List.drop_drop, hdK, show K + 2 + nm.length - (K + 2) = nm.length by omega]
    exact f6
  have hrest : restT X (K + 2 + nm.length) [] false = some ([], false, K + nm.length + 4) := by
    rw [restT_step X _ [] false (by omega), hsk, show X[K + nm.length + 3]? = some 62 by rw [Nat.add_assoc, hat]; exact f5]
    simp
  have hread : readT X (K : Int) = (⟨3, nm, [], false⟩, ((K + nm.length + 4 : Nat) : Int), true) := by
    unfold readT
    rw [if_neg (by omega), Int.toNat_natCast, hdK, if_pos (by rfl)]
    unfold tagT
    rw [hfrom, hnl, hrest, hpc, hend, if_pos (by rw [hat]; exact f2)]
    rfl
  have h121 : X[K + nm.length + 4]? = some 121 := by rw [Nat.add_assoc, hat]; exact f9
  have hY : K + nm.length + 4 + 1 = X.length := by omega
  have hno2 : X[K + nm.length + 4]? ≠ some 60 := by rw [h121]; decide
  have htx : textX X false (K + nm.length + 4) true = ([121], X.length) := by
    rw [textX_step X false _ true (by omega), h121]
    simp only
    rw [if_neg (by simp), if_neg (by decide), textX_step X false _ false (by omega), hY, List.getElem?_eq_none (Nat.le_refl _)]
  have hn1 : nextL X startL = (⟨2, S nm, [], false, ⟨#[]⟩⟩, ⟨P, 1, false, S nm⟩) := by
    unfold nextL
    rw [if_neg (by show ¬ _ ≤ 0; omega), if_neg (by decide), if_neg (by decide)]
    show ((dataX X false 0).1, afterL startL (dataX X false 0)) = _
    rw [dataX_step _ _ 0 (Nat.zero_le _), if_neg (by omega)]
    rw [show ((0 : Nat) : Int) = 0 from rfl, hr, r6, if_pos rfl, r5]
    unfold tgTk afterL
    simp only [r1, r2, r3, r4, Int.toNat_natCast, hP]
    rfl
  have hg1 : goL X startL = ⟨P, 3, false, S nm⟩ := by
    unfold goL
    rw [hn1, if_pos rfl]
    unfold setL
    rw [hm]
    rfl
  have hn2 : nextL X ⟨P, 3, false, S nm⟩ = (txtT z, ⟨K, 3, false, S nm⟩) := by
    unfold nextL
    rw [if_neg (by show ¬ _ ≤ P; omega), if_pos (.inr rfl)]
    rw [if_neg (by rw [B_S, hno P (Nat.le_refl _) (by omega)]; decide)]
    rw [B_S]
    show (txtT (if (3 : Int) = 2 then allR false (pieceL X P (rawEnd X nm P)) else pieceL X P (rawEnd X nm P)), (⟨rawEnd X nm P, 3, false, S nm⟩ : Lx)) = _
    rw [if_neg (by decide)]
    rw [hrw, hpiece]
  have hg2 : goL X ⟨P, 3, false, S nm⟩ = ⟨K, 3, false, S nm⟩ := by
    unfold goL
    rw [hn2, if_neg (by show ¬ (4 : Int) = 2; decide)]
  have hn3 : nextL X ⟨K, 3, false, S nm⟩ = (⟨3, S nm, [], false, ⟨#[]⟩⟩, ⟨K + nm.length + 4, 1, false, S nm⟩) := by
    unfold nextL
    rw [if_neg (by show ¬ _ ≤ K; omega), if_pos (.inr rfl), if_pos (by rw [B_S]; exact hyes)]
    show ((dataX X false K).1, afterL ⟨K, 1, false, S nm⟩ (dataX X false K)) = _
    rw [dataX_step _ _ K (by omega), if_neg (by omega), hread, if_pos rfl]
    rfl
  have hg3 : goL X ⟨K, 3, false, S nm⟩ = ⟨K + nm.length + 4, 1, false, S nm⟩ := by
    unfold goL
    rw [hn3, if_neg (by show ¬ (3 : Int) = 2; decide)]
  have hn4 : nextL X ⟨K + nm.length + 4, 1, false, S nm⟩ = (txtT [121], ⟨X.length, 1, false, S nm⟩) := by
    unfold nextL
    rw [if_neg (by show ¬ _ ≤ K + nm.length + 4; omega), if_neg (by show ¬ ((1 : Int) = 2 ∨ (1 : Int) = 3); decide), if_neg (by show ¬ (1 : Int) = 4; decide)]
    show ((dataX X false (K + nm.length + 4)).1, afterL ⟨K + nm.length + 4, 1, false, S nm⟩ (dataX X false (K + nm.length + 4))) = _
    rw [dataX_step _ _ _ (by omega), if_neg (by omega), readT_no hno2, readM_no false hno2, if_neg (by simp), if_neg (by simp), if_pos rfl, htx]
    rfl
  have hg4 : goL X ⟨K + nm.length + 4, 1, false, S nm⟩ = ⟨X.length, 1, false, S nm⟩ := by
    unfold goL
    rw [hn4, if_neg (by show ¬ (4 : Int) = 2; decide)]
  have hn5 : nextL X ⟨X.length, 1, false, S nm⟩ = (eofT, ⟨X.length, 1, false, S nm⟩) := by
    unfold nextL
    rw [if_pos (Nat.le_refl _)]
  rw [hX, tokensL_toks, toksL_step _ _ (Nat.zero_le _), hn1, if_neg (by show ¬ (2 : Int) = 6; decide), hg1,
    toksL_step _ _ (by show P ≤ _; omega), hn2, if_neg (by show ¬ (4 : Int) = 6; decide), hg2,
    toksL_step _ _ (by show K ≤ _; omega), hn3, if_neg (by show ¬ (3 : Int) = 6; decide), hg3,
    toksL_step _ _ (by show K + nm.length + 4 ≤ _; omega), hn4, if_neg (by show ¬ (4 : Int) = 6; decide), hg4,
    toksL_step _ _ (Nat.le_refl _), hn5, if_pos (by show (6 : Int) = 6; rfl)]
def escTx : ByteArray := ⟨#[60, 116, 105, 116, 108, 101, 62, 38, 108, 116, 59, 98, 62, 60, 47, 116, 105, 116, 108, 101, 62]⟩
def seeR (t : Tk) : Int × List UInt8 × List UInt8 := (t.kd, B t.nm, B t.tx)
theorem escT_toks : (tokensL (B escTx)).map seeR = [(2, [116, 105, 116, 108, 101], []), (4, [], [60, 98, 62]), (3, [116, 105, 116, 108, 101], []), (6, [], [])] := by decide +kernel
end Go.Proofs.Ytdjeajbinpgpiaa
