/- Chapter 3 in plain words: what is made ready, rune by rune, is what three replacements make of the text. No program in sight. -/
import Derived.Test.YtojpedgfllgbcaaDoorUtf0
namespace Go.Proofs.YtojpedgfllgbcaaDoor
open Go.RowKit

/-! ### replacing, place by place -/
def subA (old new s : List UInt8) : List UInt8 := Lib.replaceK old new (Lib.count s old) s
theorem subA_all {s old new : List UInt8} (h : old ≠ new) : Lib.replaceAll s old new = subA old new s := by
  unfold Lib.replaceAll Lib.replace subA
  rw [if_neg (by rw [beq_iff_eq]; exact h)]
  unfold Lib.replaceNum
  rw [if_pos (.inl (by omega))]
theorem subA_nil (old new : List UInt8) (h : old ≠ []) : subA old new [] = [] := by
  have hi : Lib.index [] old = -1 := by
    cases old with
    | nil => exact absurd rfl h
    | cons a t => rfl
  unfold subA
  rw [Lib.count_miss hi]
  rfl
theorem subA_hit {old s : List UInt8} (new : List UInt8) (h : old ≠ []) (hp : old.isPrefixOf s = true) : subA old new s = new ++ subA old new (s.drop old.length) := by
  have hi : Lib.index s old = (0 : Nat) := Lib.index_first (Nat.zero_le _) (by unfold Lib.occAt; simpa using hp) (fun j hj => absurd hj (by omega))
  unfold subA
  rw [Lib.count_hit h hi, Nat.zero_add, Nat.add_comm 1, Lib.replaceK_hit old new _ s 0 hi, Nat.zero_add]
  simp
theorem subA_miss {old t : List UInt8} {x : UInt8} (new : List UInt8) (h : old ≠ []) (hp : old.isPrefixOf (x :: t) = false) : subA old new (x :: t) = x :: subA old new t := by
  have hge := Lib.index_ge t old
  by_cases hm : Lib.index t old = -1
  · have h1 : Lib.index (x :: t) old = -1 := by unfold Lib.index; rw [hp, hm]; rfl
    unfold subA
    rw [Lib.count_miss h1, Lib.count_miss hm]
    rfl
  · obtain ⟨i, hi⟩ : ∃ i : Nat, Lib.index t old = i := ⟨(Lib.index t old).toNat, by omega⟩
    have h1 : Lib.index (x :: t) old = ((i + 1 : Nat) : Int) := by
      unfold Lib.index; rw [hp, hi]
      have : ((i : Int) == -1) = false := by rw [beq_eq_false_iff_ne]; omega
      simp [this]
    unfold subA
    rw [Lib.count_hit h h1, Lib.count_hit h hi, Nat.add_comm 1, Nat.add_comm 1, Lib.replaceK_hit old new _ _ _ h1, Lib.replaceK_hit old new _ _ _ hi]
    have e : i + 1 + old.length = (i + old.length) + 1 := by omega
    rw [e, List.drop_succ_cons, List.take_succ_cons]
    rfl
theorem subA_pass {a : UInt8} {o : List UInt8} (new : List UInt8) : ∀ (hs t : List UInt8), (∀ b ∈ hs, b ≠ a) → subA (a :: o) new (hs ++ t) = hs ++ subA (a :: o) new t
  | [], t, _ => rfl
  | b :: hs, t, h => by
    have hb : ¬ a = b := fun e => h b (by simp) e.symm
    rw [List.cons_append, subA_miss new (by simp) (by simp [List.isPrefixOf, hb]), subA_pass new hs t (fun c hc => h c (List.mem_cons_of_mem _ hc))]
    rfl

theorem utf_bytes {c : Nat} (hg : goodR c) : (c < 128 ∧ utfN c = [UInt8.ofNat c]) ∨ (128 ≤ c ∧ ∀ b ∈ utfN c, 128 ≤ b.toNat) := by
  have hg' := hg
  unfold goodR at hg'
  rcases Nat.lt_or_ge c 128 with h1 | h1
  · exact .inl ⟨h1, utf_one h1⟩
  refine .inr ⟨h1, ?_⟩
  rcases Nat.lt_or_ge c 2048 with h2 | h2
  · rw [utf_two h1 h2]
    intro b hb
    simp only [List.mem_cons, List.mem_nil_iff, or_false] at hb
    rcases hb with rfl | rfl <;> rw [ofNat_nat (by omega)] <;> omega
  · rcases Nat.lt_or_ge c 65536 with h3 | h3
    · rw [utf_three hg h2 h3]
      intro b hb
      simp only [List.mem_cons, List.mem_nil_iff, or_false] at hb
      rcases hb with rfl | rfl | rfl <;> rw [ofNat_nat (by omega)] <;> omega
    · rw [utf_four hg h3]
      intro b hb
      simp only [List.mem_cons, List.mem_nil_iff, or_false] at hb
      rcases hb with rfl | rfl | rfl | rfl <;> rw [ofNat_nat (by omega)] <;> omega
theorem enc_nat (c : Nat) (l : List Int) : encI ((c : Int) :: l) = utfN c ++ encI l := encI_cons _ _
theorem enc_low {c : Nat} (h : c < 128) (l : List Int) : encI ((c : Int) :: l) = UInt8.ofNat c :: encI l := by rw [enc_nat, utf_one h]; rfl
/-- A byte of what is written that is small is a rune. -/
theorem enc_small {c : Nat} (hc : c < 128) : ∀ (l : List Int), (∀ x ∈ l, GoodI x) → UInt8.ofNat c ∈ encI l → (c : Int) ∈ l
  | [], _, h => by rw [encI_nil] at h; cases h
  | x :: l, hl, h => by
    obtain ⟨n, hg, rfl⟩ := hl x (by simp)
    rw [enc_nat] at h
    rcases List.mem_append.1 h with h | h
    · rcases utf_bytes hg with ⟨h1, e⟩ | ⟨h1, hb⟩
      · rw [e] at h
        have e2 : UInt8.ofNat c = UInt8.ofNat n := by simpa using h
        have e3 := congrArg UInt8.toNat e2
        rw [ofNat_nat (by omega), ofNat_nat (by omega)] at e3
        subst e3
        simp
      · have := hb _ h
        rw [ofNat_nat (by omega)] at this
        omega
    · exact List.mem_cons_of_mem _ (enc_small hc l (fun y hy => hl y (List.mem_cons_of_mem _ hy)) h)

/-! ### rune by rune -/
def stepR (x : Int) (t : List Int) : List Int := if x = 13 then (if t.head? = some 10 then [] else [10]) else if x = 0 then [65533] else [x]
def prepR : List Int → List Int
  | [] => []
  | x :: t => stepR x t ++ prepR t
theorem prepR_cons (x : Int) (t : List Int) : prepR (x :: t) = stepR x t ++ prepR t := rfl
theorem stepR_app {x : Int} {t u : List Int} (h : t ≠ []) : stepR x (t ++ u) = stepR x t := by
  cases t with
  | nil => exact absurd rfl h
  | cons y t => rfl
theorem step_good {x : Int} {t : List Int} (h : GoodI x) : ∀ y ∈ stepR x t, GoodI y ∧ y ≠ 13 ∧ y ≠ 0 := by
  intro y hy
  unfold stepR at hy
  split at hy
  · split at hy
    · cases hy
    · simp only [List.mem_cons, List.mem_nil_iff, or_false] at hy
      subst hy
      exact ⟨⟨10, .inl (by omega), rfl⟩, by omega, by omega⟩
  · split at hy
    · simp only [List.mem_cons, List.mem_nil_iff, or_false] at hy
      subst hy
      exact ⟨⟨65533, good_bad, rfl⟩, by omega, by omega⟩
    · simp only [List.mem_cons, List.mem_nil_iff, or_false] at hy
      subst hy
      exact ⟨h, ‹_›, ‹_›⟩
theorem prep_good : ∀ (l : List Int), (∀ x ∈ l, GoodI x) → ∀ y ∈ prepR l, GoodI y ∧ y ≠ 13 ∧ y ≠ 0
  | [], _, y, hy => by cases hy
  | x :: l, h, y, hy => by
    rw [prepR_cons] at hy
    rcases List.mem_append.1 hy with hy | hy
    · exact step_good (h x (by simp)) y hy
    · exact prep_good l (fun z hz => h z (List.mem_cons_of_mem _ hz)) y hy
theorem prep_same : ∀ (l : List Int), (∀ x ∈ l, x ≠ 13 ∧ x ≠ 0) → prepR l = l
  | [], _ => rfl
  | x :: l, h => by
    obtain ⟨h1, h2⟩ := h x (by simp)
    rw [prepR_cons, prep_same l (fun z hz => h z (List.mem_cons_of_mem _ hz))]
    unfold stepR
    rw [if_neg h1, if_neg h2]
    rfl
theorem step_len (x : Int) (t : List Int) : (stepR x t).length ≤ 1 := by
  unfold stepR
  split
  · split <;> simp
  · split <;> simp
theorem prep_len : ∀ l : List Int, (prepR l).length ≤ l.length
  | [] => Nat.le_refl _
  | x :: l => by
    rw [prepR_cons, List.length_append, List.length_cons]
    have := step_len x l
    have := prep_len l
    omega

/-! ### the three replacements -/
def cutR : List Int → List Int
  | [] => []
  | x :: t => if x = 13 ∧ t.head? = some 10 then cutR t else x :: cutR t
theorem cutR_cons (x : Int) (t : List Int) : cutR (x :: t) = if x = 13 ∧ t.head? = some 10 then cutR t else x :: cutR t := rfl
def tenR (l : List Int) : List Int := l.map fun x => if x = 13 then 10 else x
def badR (l : List Int) : List Int := l.map fun x => if x = 0 then 65533 else x
theorem three_prep : ∀ l : List Int, badR (tenR (cutR l)) = prepR l
  | [] => rfl
  | x :: t => by
    rw [prepR_cons, ← three_prep t]
    rw [cutR_cons]
    unfold stepR
    by_cases h1 : x = 13
    · by_cases h2 : t.head? = some 10
      · rw [if_pos ⟨h1, h2⟩, if_pos h1, if_pos h2]; rfl
      · rw [if_neg (fun h => h2 h.2), if_pos h1, if_neg h2, h1]; rfl
    · rw [if_neg (fun h => h1 h.1), if_neg h1]
      by_cases h3 : x = 0
      · rw [if_pos h3, h3]; rfl
      · rw [if_neg h3]
        unfold badR tenR
        simp [h1, h3]
theorem cut_mem : ∀ (l : List Int), ∀ x ∈ cutR l, x ∈ l
  | [], x, h => by cases h
  | y :: t, x, h => by
    rw [cutR_cons] at h
    split at h
    · exact List.mem_cons_of_mem _ (cut_mem t x h)
    · rcases List.mem_cons.1 h with rfl | h
      · simp
      · exact List.mem_cons_of_mem _ (cut_mem t x h)
theorem cut_good {l : List Int} (h : ∀ x ∈ l, GoodI x) : ∀ x ∈ cutR l, GoodI x := fun x hx => h x (cut_mem l x hx)
theorem ten_good {l : List Int} (h : ∀ x ∈ l, GoodI x) : ∀ x ∈ tenR l, GoodI x := by
  intro x hx
  unfold tenR at hx
  obtain ⟨y, hy, rfl⟩ := List.mem_map.1 hx
  split
  · exact ⟨10, .inl (by omega), rfl⟩
  · exact h y hy
theorem head_enc {t : List Int} (h : ∀ x ∈ t, GoodI x) : (∃ t', t = 10 :: t') ∨ (t.head? ≠ some 10 ∧ (encI t).head? ≠ some 10) := by
  cases t with
  | nil => exact .inr ⟨by simp, by simp [encI_nil]⟩
  | cons x t =>
    obtain ⟨n, hg, rfl⟩ := h x (by simp)
    by_cases hn : n = 10
    · subst hn; exact .inl ⟨t, rfl⟩
    · refine .inr ⟨?_, ?_⟩
      · simp only [List.head?_cons, ne_eq, Option.some.injEq]; omega
      · rw [enc_nat]
        rcases utf_bytes hg with ⟨h1, e⟩ | ⟨h1, hb⟩
        · rw [e]
          simp only [List.cons_append, List.head?_cons, ne_eq, Option.some.injEq]
          intro e2
          have e3 := congrArg UInt8.toNat e2
          rw [ofNat_nat (by omega)] at e3
          exact hn e3
        · have hp := utf_pos n
          cases hu : utfN n with
          | nil => rw [hu] at hp; simp at hp
          | cons b r =>
            rw [hu] at hb
            have := hb b (by simp)
            simp only [List.cons_append, List.head?_cons, ne_eq, Option.some.injEq]
            rintro rfl
            exact absurd this (by decide)
theorem high_ne {c : Nat} {a : UInt8} (ha : a.toNat < 128) (hb : ∀ b ∈ utfN c, 128 ≤ b.toNat) : ∀ b ∈ utfN c, b ≠ a := by
  intro b hm e
  subst e
  have := hb b hm
  omega
theorem sub_cut : ∀ (n : Nat) (l : List Int), l.length ≤ n → (∀ x ∈ l, GoodI x) → subA [13, 10] [10] (encI l) = encI (cutR l)
  | n, [], _, _ => by rw [encI_nil, subA_nil _ _ (by simp)]; rfl
  | 0, x :: t, h, _ => by simp at h
  | n + 1, x :: t, h, hg => by
    obtain ⟨c, hc, rfl⟩ := hg x (by simp)
    have ht : ∀ y ∈ t, GoodI y := fun y hy => hg y (List.mem_cons_of_mem _ hy)
    have ih := sub_cut n t (by simpa using h) ht
    rcases utf_bytes hc with ⟨h1, e⟩ | ⟨h1, hb⟩
    · by_cases h13 : c = 13
      · subst h13
        rcases head_enc ht with ⟨t', rfl⟩ | ⟨h2, h3⟩
        · have e2 : cutR (((13 : Nat) : Int) :: 10 :: t') = cutR (10 :: t') := by
            rw [cutR_cons, if_pos ⟨rfl, rfl⟩]
          rw [e2, ← ih, enc_low (by omega), show (10 : Int) = ((10 : Nat) : Int) from rfl, enc_low (by omega)]
          rw [subA_hit [10] (by simp) (by simp [List.isPrefixOf]), subA_miss [10] (by simp) (by simp [List.isPrefixOf])]
          rfl
        · have e2 : cutR (((13 : Nat) : Int) :: t) = 13 :: cutR t := by
            rw [cutR_cons, if_neg (fun h => h2 h.2)]
            rfl
          rw [e2, show (13 : Int) = ((13 : Nat) : Int) from rfl, enc_low (by omega), enc_low (by omega), ← ih]
          refine subA_miss [10] (by simp) ?_
          cases hq : encI t with
          | nil => rfl
          | cons b r =>
            rw [hq] at h3
            simp only [List.head?_cons, ne_eq, Option.some.injEq] at h3
            simp only [List.isPrefixOf, Bool.and_true]
            simp only [Bool.and_eq_false_iff, beq_eq_false_iff_ne, ne_eq]
            exact .inr (fun e => h3 e.symm)
      · have e2 : cutR ((c : Int) :: t) = (c : Int) :: cutR t := by
          rw [cutR_cons, if_neg (fun h => h13 (by have := h.1; omega))]
        rw [e2, enc_low h1, enc_low h1, ← ih]
        refine subA_miss [10] (by simp) ?_
        have : ¬ (13 : UInt8) = UInt8.ofNat c := by
          intro e3
          have := congrArg UInt8.toNat e3
          rw [ofNat_nat (by omega)] at this
          exact h13 this.symm
        simp [List.isPrefixOf, this]
    · have e2 : cutR ((c : Int) :: t) = (c : Int) :: cutR t := by
        rw [cutR_cons, if_neg (fun h => by have := h.1; omega)]
      rw [e2, enc_nat, enc_nat, ← ih]
      exact subA_pass [10] _ _ (high_ne (by decide) hb)
/-- One rune below 128 for another. -/
theorem sub_map {k : Nat} (hk : k < 128) (m : Nat) : ∀ (l : List Int), (∀ x ∈ l, GoodI x) → subA [UInt8.ofNat k] (utfN m) (encI l) = encI (l.map fun x => if x = (k : Int) then (m : Int) else x)
  | [], _ => by rw [encI_nil, subA_nil _ _ (by simp)]; rfl
  | x :: t, hg => by
    obtain ⟨c, hc, rfl⟩ := hg x (by simp)
    have ih := sub_map hk m t (fun y hy => hg y (List.mem_cons_of_mem _ hy))
    rw [List.map_cons]
    by_cases hck : c = k
    · subst hck
      rw [if_pos rfl, enc_low hk, enc_nat, ← ih, subA_hit _ (by simp) (by simp [List.isPrefixOf])]
      rfl
    · rw [if_neg (by omega)]
      rcases utf_bytes hc with ⟨h1, e⟩ | ⟨h1, hb⟩
      · rw [enc_low h1, enc_low h1, ← ih]
        refine subA_miss _ (by simp) ?_
        have : ¬ UInt8.ofNat k = UInt8.ofNat c := by
          intro e3
          have := congrArg UInt8.toNat e3
          rw [ofNat_nat (by omega), ofNat_nat (by omega)] at this
          exact hck this.symm
        simp [List.isPrefixOf, this]
      · rw [enc_nat, enc_nat, ← ih]
        exact subA_pass _ _ _ (high_ne (by rw [ofNat_nat (by omega)]; exact hk) hb)
theorem utf_bad : utfN 65533 = [239, 191, 189] := by
  rw [utf_three good_bad (by omega) (by omega)]
  rfl
/-- The three, one behind the other. -/
theorem sub_three {l : List Int} (h : ∀ x ∈ l, GoodI x) :
    Lib.replaceAll (Lib.replaceAll (Lib.replaceAll (encI l) [13, 10] [10]) [13] [10]) [0] [239, 191, 189] = encI (prepR l) := by
  rw [subA_all (by decide), subA_all (by decide), subA_all (by decide), sub_cut _ l (Nat.le_refl _) h]
  have h1 := sub_map (k := 13) (by omega) 10 (cutR l) (cut_good h)
  have h2 := sub_map (k := 0) (by omega) 65533 (tenR (cutR l)) (ten_good (cut_good h))
  rw [show ([13] : List UInt8) = [UInt8.ofNat 13] from rfl, show ([10] : List UInt8) = utfN 10 from (utf_one (c := 10) (by decide)).symm, h1]
  rw [show ([0] : List UInt8) = [UInt8.ofNat 0] from rfl, ← utf_bad]
  rw [← three_prep]
  exact h2

/-! ### what is made ready -/
def markU (l : List UInt8) : Bool := Lib.hasPrefix l [239, 187, 191]
def trimU (l : List UInt8) : List UInt8 := if markU l then l.drop 3 else l
def prepU (l : List UInt8) : List UInt8 := encI (prepR (decU (trimU l)))
theorem trim_len (l : List UInt8) : (trimU l).length ≤ l.length := by
  unfold trimU
  split
  · rw [List.length_drop]; omega
  · exact Nat.le_refl _
theorem prepU_runes (l : List UInt8) : ∃ rs, prepU l = encI rs ∧ rs.length ≤ l.length ∧ ∀ y ∈ rs, GoodI y ∧ y ≠ 13 ∧ y ≠ 0 := by
  refine ⟨_, rfl, ?_, prep_good _ (dec_good _ _ (Nat.le_refl _))⟩
  have h1 := prep_len (decU (trimU l))
  have h2 := dec_len _ (trimU l) (Nat.le_refl _)
  have h3 := trim_len l
  omega
/-- What is ready stays, but for a mark. -/
theorem prepU_idem {rs : List Int} (h : ∀ y ∈ rs, GoodI y ∧ y ≠ 13 ∧ y ≠ 0) (hm : markU (encI rs) = false) : prepU (encI rs) = encI rs := by
  unfold prepU trimU
  rw [hm, if_neg (by decide), dec_enc0 rs (fun y hy => (h y hy).1), prep_same rs (fun y hy => (h y hy).2)]
theorem enc_size4 (r : Int) : (B (Utf8.encode r)).length ≤ 4 := by
  rw [← size_B]
  exact encode_size_le r
theorem enc_len : ∀ l : List Int, (encI l).length ≤ 4 * l.length
  | [] => Nat.le_refl _
  | x :: l => by
    rw [encI_cons, List.length_append, List.length_cons]
    have := enc_size4 x
    have := enc_len l
    omega
end Go.Proofs.YtojpedgfllgbcaaDoor
