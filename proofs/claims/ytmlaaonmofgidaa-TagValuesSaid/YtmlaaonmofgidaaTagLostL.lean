/- TagLost's plain law: without a > a tag is lost, with one it is told. No program in sight. -/
import Derived.Test.YtmlaaonmofgidaaTagL
namespace Go.Proofs.Ytmlaaonmofgidaa
open Go.RowKit

def cleanT (l : List UInt8) : Prop := ∀ c ∈ l, c ≠ 62 ∧ c ≠ 34 ∧ c ≠ 39
theorem cleanT.at {l : List UInt8} (h : cleanT l) {k : Nat} {c : UInt8} (hc : l[k]? = some c) : c ≠ 62 ∧ c ≠ 34 ∧ c ≠ 39 := h c (List.mem_of_getElem? hc)
theorem bare_how (l : List UInt8) (k : Nat) : (bareT l k).2.2 ≠ 2 := by unfold bareT; split <;> simp
theorem attr_how {l : List UInt8} (h : cleanT l) (k : Nat) : (attrT l k).2.2 ≠ 2 := by
  unfold attrT
  split
  · simp
  · unfold attrV
    split
    · split
      · simp
      · simp only
        unfold valueT
        split
        · simp
        · rename_i c hc
          obtain ⟨h1, h2, h3⟩ := h.at hc
          rw [if_neg (by rintro (e | e); exact h2 e; exact h3 e), if_neg h1]
          exact bare_how _ _
    · simp
theorem restF_lost {l : List UInt8} (h : cleanT l) : ∀ (f k : Nat) (al : List At) (sf : Bool), restF f l k al sf = none
  | 0, _, _, _ => rfl
  | f + 1, k, al, sf => by
    unfold restF
    cases hc : l[skipL l k]? with
    | none => rfl
    | some c =>
      simp only
      rw [if_neg (h.at hc).1]
      split
      · rw [if_neg (fun e => (h.at e).1 rfl)]
        exact restF_lost h f _ _ _
      · split
        · rfl
        · rw [if_neg (attr_how h _)]
          exact restF_lost h f _ _ _

/-! ### with an end -/
section
variable {x : List UInt8}
theorem end_len : (x ++ [32, 62]).length = x.length + 2 := by simp
theorem end_left {j : Nat} (h : j < x.length) : (x ++ [32, 62])[j]? = x[j]? := List.getElem?_append_left h
theorem end_space : (x ++ [32, 62])[x.length]? = some 32 := by rw [List.getElem?_append_right (Nat.le_refl _)]; simp
theorem end_close : (x ++ [32, 62])[x.length + 1]? = some 62 := by rw [List.getElem?_append_right (by omega)]; simp
theorem at_get {l : List UInt8} {j : Nat} {c : UInt8} (h : l[j]? = some c) (hj : j < l.length) : l[j] = c := by rw [List.getElem?_eq_getElem hj] at h; exact Option.some.inj h
theorem stop_end (p : UInt8 → Bool) (l : List UInt8) (k j : Nat) (c : UInt8) (hk : k ≤ j) (hc : l[j]? = some c) (hp : p c = false) : stopL p l k ≤ j := by
  have hj := lt_of_at hc
  rcases Nat.lt_or_ge j (stopL p l k) with h | h
  · have := stopL_mem p l k j (by omega) hk h hj
    rw [at_get hc hj, hp] at this; cases this
  · exact h
theorem skip_end (k : Nat) (hk : k ≤ x.length + 1) : skipL (x ++ [32, 62]) k ≤ x.length + 1 ∧ skipL (x ++ [32, 62]) k ≠ x.length := by
  have h1 := stop_end spaceB (x ++ [32, 62]) k (x.length + 1) 62 hk end_close (by decide)
  refine ⟨h1, fun e => ?_⟩
  have hlt : stopL spaceB (x ++ [32, 62]) k < (x ++ [32, 62]).length := by rw [end_len]; unfold skipL at e; omega
  have h2 := stopL_at spaceB (x ++ [32, 62]) k (by rw [end_len]; omega) hlt
  have h3 : (x ++ [32, 62])[stopL spaceB (x ++ [32, 62]) k]? = some 32 := by unfold skipL at e; rw [e]; exact end_space
  rw [at_get h3 hlt] at h2
  exact absurd h2 (by decide)
theorem until_end (set : List UInt8) (k : Nat) (hk : k ≤ x.length) (hs : (32 : UInt8) ∈ set) : untilL (x ++ [32, 62]) set k ≤ x.length :=
  stop_end (fun c => !hasB set c) (x ++ [32, 62]) k x.length 32 hk end_space (by rw [(hasB_iff set 32).2 hs]; rfl)
theorem rest_ends (h : cleanT x) : ∀ (d k : Nat) (al : List At) (sf : Bool), x.length + 2 - k ≤ d → k ≤ x.length + 1 → ∃ al2 sf2, restT (x ++ [32, 62]) k al sf = some (al2, sf2, x.length + 2)
  | 0, k, al, sf, hd, hk => by omega
  | d + 1, k, al, sf, hd, hk => by
    rw [restT_step _ _ _ _ (by rw [end_len]; omega)]
    have hge := (skip_bd (x ++ [32, 62]) k (by rw [end_len]; omega)).1
    obtain ⟨h1, h2⟩ := skip_end (x := x) k hk
    generalize skipL (x ++ [32, 62]) k = t at *
    by_cases ht : t = x.length + 1
    · subst ht
      rw [end_close]
      simp only
      rw [if_pos trivial]
      exact ⟨al, sf, rfl⟩
    · have hlt : t < x.length := by omega
      obtain ⟨c, hc⟩ : ∃ c, x[t]? = some c := ⟨_, List.getElem?_eq_getElem hlt⟩
      obtain ⟨n1, n2, n3⟩ := h.at hc
      rw [end_left hlt, hc]
      simp only
      rw [if_neg n1]
      by_cases h47 : c = 47
      · rw [if_pos h47, if_neg]
        · exact rest_ends h d (t + 1) al sf (by omega) (by omega)
        · intro e
          by_cases hl2 : t + 1 < x.length
          · rw [end_left hl2] at e; exact (h.at e).1 rfl
          · rw [show t + 1 = x.length by omega, end_space] at e; cases e
      · rw [if_neg h47]
        have hne := nameEnd_bd (x ++ [32, 62]) t (by rw [end_len]; omega)
        have hne2 : nameEnd (x ++ [32, 62]) t ≤ x.length := by
          unfold nameEnd
          rw [Nat.min_eq_left (by rw [end_len]; omega)]
          exact until_end endsT (t + 1) (by omega) (by decide)
        have hat : attrT (x ++ [32, 62]) t = attrV (x ++ [32, 62]) t (nameEnd (x ++ [32, 62]) t) := by
          unfold attrT; rw [if_neg (by rw [end_len]; omega)]
        generalize nameEnd (x ++ [32, 62]) t = e at *
        obtain ⟨s1, s2⟩ := skip_end (x := x) e (by omega)
        have s3 := (skip_bd (x ++ [32, 62]) e (by rw [end_len]; omega)).1
        have hav : attrV (x ++ [32, 62]) t e = if startsL (x ++ [32, 62]) [61] (skipL (x ++ [32, 62]) e) = true then
            (if (valueT (x ++ [32, 62]) (skipL (x ++ [32, 62]) (skipL (x ++ [32, 62]) e + 1))).2.2 = 0 then (noAt, (x ++ [32, 62]).length, 0)
             else (⟨S (lowL (pieceL (x ++ [32, 62]) t e)), S (valueT (x ++ [32, 62]) (skipL (x ++ [32, 62]) (skipL (x ++ [32, 62]) e + 1))).1⟩, (valueT (x ++ [32, 62]) (skipL (x ++ [32, 62]) (skipL (x ++ [32, 62]) e + 1))).2.1, (valueT (x ++ [32, 62]) (skipL (x ++ [32, 62]) (skipL (x ++ [32, 62]) e + 1))).2.2))
          else (⟨S (lowL (pieceL (x ++ [32, 62]) t e)), ⟨#[]⟩⟩, skipL (x ++ [32, 62]) e, 1) := rfl
        rw [hav] at hat
        generalize skipL (x ++ [32, 62]) e = t2 at *
        by_cases hst : startsL (x ++ [32, 62]) [61] t2 = true
        · rw [if_pos hst] at hat
          have h61 := (starts_lt hst).2
          have ht2 : t2 < x.length := by
            rcases Nat.lt_or_ge t2 x.length with hh | hh
            · exact hh
            · have : t2 = x.length + 1 := by omega
              rw [this, end_close] at h61; cases h61
          obtain ⟨u1, u2⟩ := skip_end (x := x) (t2 + 1) (by omega)
          have u3 := (skip_bd (x ++ [32, 62]) (t2 + 1) (by rw [end_len]; omega)).1
          generalize skipL (x ++ [32, 62]) (t2 + 1) = t3 at *
          by_cases h3 : t3 = x.length + 1
          · have hv : valueT (x ++ [32, 62]) t3 = ([], x.length + 2, 2) := by
              unfold valueT; rw [h3, end_close]; simp only; rw [if_neg (by decide), if_pos trivial]
            rw [hv] at hat
            simp only at hat
            rw [if_neg (by decide)] at hat
            rw [hat]
            simp only
            rw [if_neg (by decide), if_pos trivial]
            exact ⟨_, sf, rfl⟩
          · have hl3 : t3 < x.length := by omega
            obtain ⟨c3, hc3⟩ : ∃ c, x[t3]? = some c := ⟨_, List.getElem?_eq_getElem hl3⟩
            obtain ⟨m1, m2, m3⟩ := h.at hc3
            have hv : valueT (x ++ [32, 62]) t3 = bareT (x ++ [32, 62]) t3 := by
              unfold valueT; rw [end_left hl3, hc3]; simp only; rw [if_neg (by rintro (e | e); exact m2 e; exact m3 e), if_neg m1]
            have hu := until_end (x := x) valEnd t3 (by omega) (by decide)
            have hu2 := (until_bd (x ++ [32, 62]) valEnd t3 (by rw [end_len]; omega)).1
            have hb : bareT (x ++ [32, 62]) t3 = (allR true (pieceL (x ++ [32, 62]) t3 (untilL (x ++ [32, 62]) valEnd t3)), untilL (x ++ [32, 62]) valEnd t3, 1) := by
              unfold bareT; rw [if_neg (by rw [end_len]; omega)]
            rw [hv, hb] at hat
            generalize untilL (x ++ [32, 62]) valEnd t3 = u at *
            simp only at hat
            rw [if_neg (by decide)] at hat
            rw [hat]
            simp only
            rw [if_neg (by decide), if_neg (by decide)]
            exact rest_ends h d u _ sf (by omega) (by omega)
        · rw [if_neg hst] at hat
          rw [hat]
          simp only
          rw [if_neg (by decide), if_neg (by decide)]
          exact rest_ends h d t2 _ sf (by omega) (by omega)
end
/-- A text that begins as a tag. -/
def Opens (x : List UInt8) (n : Nat) : Prop := (n = 1 ∧ ∃ y, x = 60 :: 97 :: y) ∨ (n = 2 ∧ ∃ y, x = 60 :: 47 :: 97 :: y)
theorem Opens.facts {x : List UInt8} {n : Nat} (h : Opens x n) : (x.drop 0).head? = some 60 ∧ fromT x 0 = n ∧ x[n]? = some 97 ∧ n < x.length := by
  rcases h with ⟨rfl, y, rfl⟩ | ⟨rfl, y, rfl⟩
  · refine ⟨rfl, ?_, rfl, by simp⟩
    unfold fromT endsAt startsL Lib.occAt
    rw [if_neg]
    show ¬ (60 == 60 && (47 == 97 && List.isPrefixOf [] y)) = true
    simp
  · refine ⟨rfl, ?_, rfl, by simp⟩
    unfold fromT endsAt startsL Lib.occAt
    rw [if_pos]
    show (60 == 60 && (47 == 47 && List.isPrefixOf [] (97 :: y))) = true
    simp
theorem read_opens {x : List UInt8} {n : Nat} (h : Opens x n) : readT x 0 = match restT x (nameL x n) [] false with
    | none => (noTg, (x.length : Int), false)
    | some (al, sf, m) => (if endsAt x 0 = true then ⟨3, lowL (pieceL x n (nameL x n)), [], false⟩ else ⟨2, lowL (pieceL x n (nameL x n)), al, sf⟩, (m : Int), true) := by
  obtain ⟨h1, h2, h3, h4⟩ := h.facts
  unfold readT
  rw [if_neg (by omega), if_pos (by rw [show ((0 : Int).toNat) = 0 from rfl]; exact h1), show ((0 : Int).toNat) = 0 from rfl]
  unfold tagT
  rw [h2, h3, if_pos (by decide)]
  rfl
theorem read_lost {x : List UInt8} {n : Nat} (h : Opens x n) (hc : cleanT x) : readT x 0 = (noTg, (x.length : Int), false) := by
  rw [read_opens h]
  unfold restT
  rw [restF_lost hc]
theorem read_ended {x : List UInt8} {n : Nat} (h : Opens x n) (hc : cleanT x) : ∃ t, readT (x ++ [32, 62]) 0 = (t, ((x.length + 2 : Nat) : Int), true) ∧ t.name ≠ [] := by
  have ho : Opens (x ++ [32, 62]) n := by
    rcases h with ⟨rfl, y, rfl⟩ | ⟨rfl, y, rfl⟩
    · exact .inl ⟨rfl, y ++ [32, 62], rfl⟩
    · exact .inr ⟨rfl, y ++ [32, 62], rfl⟩
  obtain ⟨_, _, h3, h4⟩ := h.facts
  have hn : nameL (x ++ [32, 62]) n ≤ x.length := until_end [9, 10, 12, 13, 32, 47, 62] n (by omega) (by decide)
  obtain ⟨al, sf, hr⟩ := rest_ends hc (x.length + 2) (nameL (x ++ [32, 62]) n) [] false (by omega) (by omega)
  rw [read_opens ho, hr]
  have hgt : n < nameL (x ++ [32, 62]) n := by
    have h5 : (x ++ [32, 62])[n]? = some 97 := by rw [end_left h4]; exact h3
    have hl : n < (x ++ [32, 62]).length := lt_of_at h5
    have hp : (fun c => !hasB [9, 10, 12, 13, 32, 47, 62] c) ((x ++ [32, 62])[n]) = true := by rw [at_get h5 hl]; decide
    have := stopL_step (fun c => !hasB [9, 10, 12, 13, 32, 47, 62] c) (x ++ [32, 62]) n hl hp
    have h6 := stopL_ge (fun c => !hasB [9, 10, 12, 13, 32, 47, 62] c) (x ++ [32, 62]) (n + 1)
    unfold nameL untilL
    omega
  have hne : lowL (pieceL (x ++ [32, 62]) n (nameL (x ++ [32, 62]) n)) ≠ [] := by
    intro e
    have := congrArg List.length e
    rw [lowL_length, pieceL_len _ _ _ (by omega) (by rw [end_len]; omega)] at this
    simp at this
    omega
  refine ⟨_, rfl, ?_⟩
  split
  · exact hne
  · exact hne
end Go.Proofs.Ytmlaaonmofgidaa
