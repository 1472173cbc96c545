/- Chapter 3 in plain words: bytes that are read as runes, runes that are written, and what is made ready. No program in sight. -/
import Derived.Test.YtojpedgfllgbcaaDoorPl
import Derived.Lib.Replace
import Derived.Lib.RuneBytes
namespace Go.Proofs.YtojpedgfllgbcaaDoor
open Go.RowKit

/-- What a lead byte asks: how many bytes follow, and the bounds of the first of them. -/
def leadU (c : Nat) : Option (Nat × Nat × Nat) :=
  if 194 ≤ c ∧ c ≤ 223 then some (1, 128, 191)
  else if c = 224 then some (2, 160, 191)
  else if c = 237 then some (2, 128, 159)
  else if 225 ≤ c ∧ c ≤ 239 then some (2, 128, 191)
  else if c = 240 then some (3, 144, 191)
  else if c = 244 then some (3, 128, 143)
  else if 241 ≤ c ∧ c ≤ 243 then some (3, 128, 191)
  else none
/-- The bytes behind a lead byte: so many are still asked. -/
def tailU : Nat → Nat → Nat → Nat → Nat → List UInt8 → Nat × Nat
  | 0, _, _, r, n, _ => (r, n)
  | _ + 1, _, _, _, n, [] => (65533, n)
  | k + 1, lo, hi, r, n, x :: t => if lo ≤ x.toNat ∧ x.toNat ≤ hi then tailU k 128 191 (r * 64 + x.toNat % 64) (n + 1) t else (65533, n)
/-- What is left of a lead byte when its mark is struck. -/
def leadR (c k : Nat) : Nat := if k = 1 then c % 32 else if k = 2 then c % 16 else c % 8
def oneU : List UInt8 → Nat × Nat
  | [] => (65533, 1)
  | c :: t => if c.toNat < 128 then (c.toNat, 1) else match leadU c.toNat with
    | none => (65533, 1)
    | some (k, lo, hi) => tailU k lo hi (leadR c.toNat k) 1 t
theorem one_eq (c : UInt8) (t : List UInt8) : oneU (c :: t) = if c.toNat < 128 then (c.toNat, 1) else match leadU c.toNat with
    | none => (65533, 1)
    | some (k, lo, hi) => tailU k lo hi (leadR c.toNat k) 1 t := rfl
theorem one_low {c : UInt8} {t : List UInt8} (h : c.toNat < 128) : oneU (c :: t) = (c.toNat, 1) := by rw [one_eq, if_pos h]
theorem one_none {c : UInt8} {t : List UInt8} (h : ¬ c.toNat < 128) (hl : leadU c.toNat = none) : oneU (c :: t) = (65533, 1) := by rw [one_eq, if_neg h, hl]
theorem one_some {c : UInt8} {t : List UInt8} {k lo hi : Nat} (hl : leadU c.toNat = some (k, lo, hi)) : oneU (c :: t) = tailU k lo hi (leadR c.toNat k) 1 t := by
  have h : ¬ c.toNat < 128 := by
    intro h
    unfold leadU at hl
    rw [if_neg (by omega), if_neg (by omega), if_neg (by omega), if_neg (by omega), if_neg (by omega), if_neg (by omega), if_neg (by omega)] at hl
    cases hl
  rw [one_eq, if_neg h, hl]
theorem tail_zero (lo hi r n : Nat) (t : List UInt8) : tailU 0 lo hi r n t = (r, n) := by unfold tailU; rfl
theorem tail_nil (k lo hi r n : Nat) : tailU (k + 1) lo hi r n [] = (65533, n) := by unfold tailU; rfl
theorem tail_in {k lo hi r n : Nat} {x : UInt8} {t : List UInt8} (h : lo ≤ x.toNat ∧ x.toNat ≤ hi) : tailU (k + 1) lo hi r n (x :: t) = tailU k 128 191 (r * 64 + x.toNat % 64) (n + 1) t := by rw [tailU, if_pos h]
theorem tail_out {k lo hi r n : Nat} {x : UInt8} {t : List UInt8} (h : ¬ (lo ≤ x.toNat ∧ x.toNat ≤ hi)) : tailU (k + 1) lo hi r n (x :: t) = (65533, n) := by rw [tailU, if_neg h]

theorem lead_cases {c k lo hi : Nat} (h : leadU c = some (k, lo, hi)) :
    (k = 1 ∧ 194 ≤ c ∧ c ≤ 223 ∧ lo = 128 ∧ hi = 191) ∨
    (k = 2 ∧ 224 ≤ c ∧ c ≤ 239 ∧ 128 ≤ lo ∧ hi ≤ 191 ∧ (c = 224 → lo = 160) ∧ (c = 237 → hi = 159) ∧ (c ≠ 224 → lo = 128) ∧ (c ≠ 237 → hi = 191)) ∨
    (k = 3 ∧ 240 ≤ c ∧ c ≤ 244 ∧ 128 ≤ lo ∧ hi ≤ 191 ∧ (c = 240 → lo = 144) ∧ (c = 244 → hi = 143) ∧ (c ≠ 240 → lo = 128) ∧ (c ≠ 244 → hi = 191)) := by
  unfold leadU at h
  split at h
  · cases h; omega
  split at h
  · cases h; omega
  split at h
  · cases h; omega
  split at h
  · cases h; omega
  split at h
  · cases h; omega
  split at h
  · cases h; omega
  split at h
  · cases h; omega
  · cases h
theorem lead_none {c : Nat} (h : leadU c = none) (h1 : 194 ≤ c) : 244 < c := by
  unfold leadU at h
  repeat' split at h
  all_goals first | (cases h; done) | omega
theorem ofNat_eq {c : UInt8} {n : Nat} (h : n = c.toNat) : UInt8.ofNat n = c := by subst h; exact UInt8.ofNat_toNat
theorem utf_one {c : Nat} (h : c < 128) : utfN c = [UInt8.ofNat c] := by unfold utfN; rw [enc_one h]; rfl
theorem utf_two {c : Nat} (h1 : 128 ≤ c) (h : c < 2048) : utfN c = [UInt8.ofNat (192 + c / 64), UInt8.ofNat (128 + c % 64)] := by unfold utfN; rw [enc_two h1 h]; rfl
theorem utf_three {c : Nat} (hg : goodR c) (h1 : 2048 ≤ c) (h : c < 65536) : utfN c = [UInt8.ofNat (224 + c / 4096), UInt8.ofNat (128 + c / 64 % 64), UInt8.ofNat (128 + c % 64)] := by unfold utfN; rw [enc_three hg h1 h]; rfl
theorem utf_four {c : Nat} (hg : goodR c) (h1 : 65536 ≤ c) : utfN c = [UInt8.ofNat (240 + c / 262144), UInt8.ofNat (128 + c / 4096 % 64), UInt8.ofNat (128 + c / 64 % 64), UInt8.ofNat (128 + c % 64)] := by unfold utfN; rw [enc_four hg h1]; rfl

/-- What begins here is a rune that was encoded, or it is lost. -/
def Whole (l : List UInt8) (r : Nat) : Prop := goodR r ∧ oneU l = (r, (utfN r).length) ∧ (utfN r).length ≤ l.length ∧ l.take (utfN r).length = utfN r
def Lost (l : List UInt8) : Prop := (oneU l).1 = 65533 ∧ 1 ≤ (oneU l).2 ∧ (oneU l).2 ≤ l.length ∧ ∀ c k lo hi, l.head? = some c → leadU c.toNat = some (k, lo, hi) → (oneU l).2 ≤ k
theorem one_cases (c : UInt8) (t : List UInt8) : (∃ r, Whole (c :: t) r) ∨ Lost (c :: t) := by
  by_cases h : c.toNat < 128
  · refine .inl ⟨c.toNat, .inl (by omega), ?_, ?_, ?_⟩ <;> rw [utf_one h, ofNat_eq rfl]
    · exact one_low h
    · simp
    · simp
  cases hl : leadU c.toNat with
  | none =>
    refine .inr ?_
    unfold Lost
    rw [one_none h hl]
    refine ⟨rfl, Nat.le_refl _, by simp, fun c' k lo hi hc' hk => ?_⟩
    simp only [List.head?_cons, Option.some.injEq] at hc'
    subst hc'
    rw [hl] at hk
    cases hk
  | some z =>
    obtain ⟨k, lo, hi⟩ := z
    have e := one_some (t := t) hl
    have hc := lead_cases hl
    have lost : ∀ n, oneU (c :: t) = (65533, n) → 1 ≤ n → n ≤ (c :: t).length → n ≤ k → Lost (c :: t) := by
      intro n hn h1 h2 h3
      unfold Lost
      rw [hn]
      refine ⟨rfl, h1, h2, fun c' k' lo' hi' hc' hk => ?_⟩
      simp only [List.head?_cons, Option.some.injEq] at hc'
      subst hc'
      rw [hl] at hk
      cases hk
      exact h3
    rcases hc with ⟨rfl, c1, c2, rfl, rfl⟩ | ⟨rfl, c1, c2, hlo, hhi, q1, q2, q3, q4⟩ | ⟨rfl, c1, c2, hlo, hhi, q1, q2, q3, q4⟩
    · cases t with
      | nil => exact .inr (lost 1 (by rw [e, tail_nil]) (Nat.le_refl _) (by simp) (by omega))
      | cons x t =>
        by_cases hx : 128 ≤ x.toNat ∧ x.toNat ≤ 191
        · rw [tail_in hx, tail_zero] at e
          refine .inl ⟨leadR c.toNat 1 * 64 + x.toNat % 64, ?_⟩
          have hr : leadR c.toNat 1 = c.toNat % 32 := rfl
          rw [hr] at e ⊢
          have hg : goodR (c.toNat % 32 * 64 + x.toNat % 64) := .inl (by omega)
          have hu : utfN (c.toNat % 32 * 64 + x.toNat % 64) = [c, x] := by
            rw [utf_two (by omega) (by omega), ofNat_eq (c := c) (by omega), ofNat_eq (c := x) (by omega)]
          refine ⟨hg, ?_, ?_, ?_⟩ <;> rw [hu]
          · rw [e]; rfl
          · simp
          · simp
        · exact .inr (lost 1 (by rw [e, tail_out hx]) (Nat.le_refl _) (by simp) (by omega))
    · cases t with
      | nil => exact .inr (lost 1 (by rw [e, tail_nil]) (Nat.le_refl _) (by simp) (by omega))
      | cons x t =>
        by_cases hx : lo ≤ x.toNat ∧ x.toNat ≤ hi
        · rw [tail_in hx] at e
          cases t with
          | nil => exact .inr (lost 2 (by rw [e, tail_nil]) (by omega) (by simp) (by omega))
          | cons y t =>
            by_cases hy : 128 ≤ y.toNat ∧ y.toNat ≤ 191
            · rw [tail_in hy, tail_zero] at e
              have hr : leadR c.toNat 2 = c.toNat % 16 := rfl
              rw [hr] at e
              refine .inl ⟨(c.toNat % 16 * 64 + x.toNat % 64) * 64 + y.toNat % 64, ?_⟩
              have hg : goodR ((c.toNat % 16 * 64 + x.toNat % 64) * 64 + y.toNat % 64) := by unfold goodR; omega
              have hu : utfN ((c.toNat % 16 * 64 + x.toNat % 64) * 64 + y.toNat % 64) = [c, x, y] := by
                rw [utf_three hg (by omega) (by omega), ofNat_eq (c := c) (by omega), ofNat_eq (c := x) (by omega), ofNat_eq (c := y) (by omega)]
              refine ⟨hg, ?_, ?_, ?_⟩ <;> rw [hu]
              · rw [e]; rfl
              · simp
              · simp
            · exact .inr (lost 2 (by rw [e, tail_out hy]) (by omega) (by simp) (by omega))
        · exact .inr (lost 1 (by rw [e, tail_out hx]) (Nat.le_refl _) (by simp) (by omega))
    · cases t with
      | nil => exact .inr (lost 1 (by rw [e, tail_nil]) (Nat.le_refl _) (by simp) (by omega))
      | cons x t =>
        by_cases hx : lo ≤ x.toNat ∧ x.toNat ≤ hi
        · rw [tail_in hx] at e
          cases t with
          | nil => exact .inr (lost 2 (by rw [e, tail_nil]) (by omega) (by simp) (by omega))
          | cons y t =>
            by_cases hy : 128 ≤ y.toNat ∧ y.toNat ≤ 191
            · rw [tail_in hy] at e
              cases t with
              | nil => exact .inr (lost 3 (by rw [e, tail_nil]) (by omega) (by simp) (by omega))
              | cons z t =>
                by_cases hz : 128 ≤ z.toNat ∧ z.toNat ≤ 191
                · rw [tail_in hz, tail_zero] at e
                  have hr : leadR c.toNat 3 = c.toNat % 8 := rfl
                  rw [hr] at e
                  refine .inl ⟨((c.toNat % 8 * 64 + x.toNat % 64) * 64 + y.toNat % 64) * 64 + z.toNat % 64, ?_⟩
                  have hg : goodR (((c.toNat % 8 * 64 + x.toNat % 64) * 64 + y.toNat % 64) * 64 + z.toNat % 64) := by unfold goodR; omega
                  have hu : utfN (((c.toNat % 8 * 64 + x.toNat % 64) * 64 + y.toNat % 64) * 64 + z.toNat % 64) = [c, x, y, z] := by
                    rw [utf_four hg (by omega), ofNat_eq (c := c) (by omega), ofNat_eq (c := x) (by omega), ofNat_eq (c := y) (by omega), ofNat_eq (c := z) (by omega)]
                  refine ⟨hg, ?_, ?_, ?_⟩ <;> rw [hu]
                  · rw [e]; rfl
                  · simp
                  · simp
                · exact .inr (lost 3 (by rw [e, tail_out hz]) (by omega) (by simp) (by omega))
            · exact .inr (lost 2 (by rw [e, tail_out hy]) (by omega) (by simp) (by omega))
        · exact .inr (lost 1 (by rw [e, tail_out hx]) (Nat.le_refl _) (by simp) (by omega))
theorem utf_pos (r : Nat) : 1 ≤ (utfN r).length := by
  have := enc_size r
  rw [size_B] at this
  exact this
theorem one_len {l : List UInt8} (h : l ≠ []) : 1 ≤ (oneU l).2 ∧ (oneU l).2 ≤ l.length := by
  cases l with
  | nil => exact absurd rfl h
  | cons c t =>
    rcases one_cases c t with ⟨r, _, e, h1, _⟩ | ⟨_, h1, h2, _⟩
    · rw [e]; dsimp only; exact And.intro (utf_pos r) h1
    · exact ⟨h1, h2⟩
theorem good_bad : goodR 65533 := .inr (by omega)
theorem one_good {l : List UInt8} (h : l ≠ []) : goodR (oneU l).1 := by
  cases l with
  | nil => exact absurd rfl h
  | cons c t =>
    rcases one_cases c t with ⟨r, hg, e, _⟩ | ⟨e, _⟩
    · rw [e]; exact hg
    · rw [e]; exact good_bad
theorem lead_of (c : Nat) (k lo hi : Nat) (h : leadU c = some (k, lo, hi) ∨ False) : leadU c = some (k, lo, hi) := h.elim id False.elim
theorem one_utf {c : Nat} (hg : goodR c) (t : List UInt8) : oneU (utfN c ++ t) = (c, (utfN c).length) := by
  have hg' := hg
  unfold goodR at hg'
  rcases Nat.lt_or_ge c 128 with h1 | h1
  · rw [utf_one h1, List.cons_append, one_low (by rw [ofNat_nat (by omega)]; exact h1), ofNat_nat (by omega)]
    rfl
  · rcases Nat.lt_or_ge c 2048 with h2 | h2
    · rw [utf_two h1 h2]
      simp only [List.cons_append, List.nil_append]
      have n0 : (UInt8.ofNat (192 + c / 64)).toNat = 192 + c / 64 := ofNat_nat (by omega)
      have n1 : (UInt8.ofNat (128 + c % 64)).toNat = 128 + c % 64 := ofNat_nat (by omega)
      have hl : leadU (UInt8.ofNat (192 + c / 64)).toNat = some (1, 128, 191) := by
        rw [n0]; unfold leadU; rw [if_pos (by omega)]
      rw [one_some hl, tail_in (by rw [n1]; omega), tail_zero, n0, n1]
      show (leadR _ 1 * 64 + _, 2) = (c, 2)
      congr 1
      show (192 + c / 64) % 32 * 64 + _ = c
      omega
    · rcases Nat.lt_or_ge c 65536 with h3 | h3
      · rw [utf_three hg h2 h3]
        simp only [List.cons_append, List.nil_append]
        have n0 : (UInt8.ofNat (224 + c / 4096)).toNat = 224 + c / 4096 := ofNat_nat (by omega)
        have n1 : (UInt8.ofNat (128 + c / 64 % 64)).toNat = 128 + c / 64 % 64 := ofNat_nat (by omega)
        have n2 : (UInt8.ofNat (128 + c % 64)).toNat = 128 + c % 64 := ofNat_nat (by omega)
        have hl : ∃ lo hi, leadU (UInt8.ofNat (224 + c / 4096)).toNat = some (2, lo, hi) := by
          rw [n0]; unfold leadU; rw [if_neg (by omega)]
          by_cases e1 : 224 + c / 4096 = 224
          · rw [if_pos e1]; exact ⟨_, _, rfl⟩
          · rw [if_neg e1]
            by_cases e2 : 224 + c / 4096 = 237
            · rw [if_pos e2]; exact ⟨_, _, rfl⟩
            · rw [if_neg e2, if_pos (by omega)]; exact ⟨_, _, rfl⟩
        obtain ⟨lo, hi, hl⟩ := hl
        have hq := lead_cases hl
        rw [n0] at hq
        rw [one_some hl, tail_in (by rw [n1]; omega), tail_in (by rw [n2]; omega), tail_zero, n0, n1, n2]
        show ((leadR _ 2 * 64 + _) * 64 + _, 3) = (c, 3)
        congr 1
        show ((224 + c / 4096) % 16 * 64 + _) * 64 + _ = c
        omega
      · rw [utf_four hg h3]
        simp only [List.cons_append, List.nil_append]
        have n0 : (UInt8.ofNat (240 + c / 262144)).toNat = 240 + c / 262144 := ofNat_nat (by omega)
        have n1 : (UInt8.ofNat (128 + c / 4096 % 64)).toNat = 128 + c / 4096 % 64 := ofNat_nat (by omega)
        have n2 : (UInt8.ofNat (128 + c / 64 % 64)).toNat = 128 + c / 64 % 64 := ofNat_nat (by omega)
        have n3 : (UInt8.ofNat (128 + c % 64)).toNat = 128 + c % 64 := ofNat_nat (by omega)
        have hl : ∃ lo hi, leadU (UInt8.ofNat (240 + c / 262144)).toNat = some (3, lo, hi) := by
          rw [n0]; unfold leadU; rw [if_neg (by omega), if_neg (by omega), if_neg (by omega), if_neg (by omega)]
          by_cases e1 : 240 + c / 262144 = 240
          · rw [if_pos e1]; exact ⟨_, _, rfl⟩
          · rw [if_neg e1]
            by_cases e2 : 240 + c / 262144 = 244
            · rw [if_pos e2]; exact ⟨_, _, rfl⟩
            · rw [if_neg e2, if_pos (by omega)]; exact ⟨_, _, rfl⟩
        obtain ⟨lo, hi, hl⟩ := hl
        have hq := lead_cases hl
        rw [n0] at hq
        rw [one_some hl, tail_in (by rw [n1]; omega), tail_in (by rw [n2]; omega), tail_in (by rw [n3]; omega), tail_zero, n0, n1, n2, n3]
        show (((leadR _ 3 * 64 + _) * 64 + _) * 64 + _, 4) = (c, 4)
        congr 1
        show (((240 + c / 262144) % 8 * 64 + _) * 64 + _) * 64 + _ = c
        omega

/-! ### all of it -/
def decF : Nat → List UInt8 → List Int
  | 0, _ => []
  | f + 1, l => if l.isEmpty then [] else ((oneU l).1 : Int) :: decF f (l.drop (oneU l).2)
def decU (l : List UInt8) : List Int := decF l.length l
theorem decF_nil (f : Nat) : decF f [] = [] := by cases f <;> rfl
theorem decF_fuel : ∀ (f g : Nat) (l : List UInt8), l.length ≤ f → l.length ≤ g → decF f l = decF g l
  | 0, g, l, h, _ => by
    obtain rfl : l = [] := List.eq_nil_of_length_eq_zero (by omega)
    rw [decF_nil, decF_nil]
  | f + 1, 0, l, _, h => by
    obtain rfl : l = [] := List.eq_nil_of_length_eq_zero (by omega)
    rw [decF_nil, decF_nil]
  | f + 1, g + 1, l, h1, h2 => by
    cases l with
    | nil => rw [decF_nil, decF_nil]
    | cons c t =>
      have hl := one_len (l := c :: t) (by simp)
      unfold decF
      rw [decF_fuel f g _ (by rw [List.length_drop]; omega) (by rw [List.length_drop]; omega)]
theorem decU_nil : decU [] = [] := rfl
theorem decU_step {l : List UInt8} (h : l ≠ []) : decU l = ((oneU l).1 : Int) :: decU (l.drop (oneU l).2) := by
  have hl := one_len h
  unfold decU
  obtain ⟨n, hn⟩ : ∃ n, l.length = n + 1 := ⟨l.length - 1, by omega⟩
  have e : decF l.length l = decF (n + 1) l := by rw [hn]
  rw [e]
  conv => lhs; unfold decF
  rw [if_neg (by cases l with | nil => exact absurd rfl h | cons c t => simp)]
  rw [decF_fuel n _ _ (by rw [List.length_drop]; omega) (Nat.le_refl _)]
theorem dec_len : ∀ (n : Nat) (l : List UInt8), l.length ≤ n → (decU l).length ≤ l.length
  | 0, l, h => by
    obtain rfl : l = [] := List.eq_nil_of_length_eq_zero (by omega)
    simp [decU_nil]
  | n + 1, l, h => by
    by_cases hl : l = []
    · subst hl; simp [decU_nil]
    · have h1 := one_len hl
      have := dec_len n (l.drop (oneU l).2) (by rw [List.length_drop]; omega)
      rw [List.length_drop] at this
      rw [decU_step hl, List.length_cons]
      omega
def GoodI (x : Int) : Prop := ∃ n : Nat, goodR n ∧ x = n
theorem dec_good : ∀ (n : Nat) (l : List UInt8), l.length ≤ n → ∀ x ∈ decU l, GoodI x
  | 0, l, h, x, hx => by
    obtain rfl : l = [] := List.eq_nil_of_length_eq_zero (by omega)
    rw [decU_nil] at hx
    cases hx
  | n + 1, l, h, x, hx => by
    by_cases hl : l = []
    · subst hl; rw [decU_nil] at hx; cases hx
    · have h1 := one_len hl
      rw [decU_step hl] at hx
      rcases List.mem_cons.1 hx with rfl | hx
      · exact ⟨_, one_good hl, rfl⟩
      · exact dec_good n _ (by rw [List.length_drop]; omega) x hx
/-- Runes, written. -/
def encI (l : List Int) : List UInt8 := l.flatMap fun r => B (Utf8.encode r)
theorem encI_nil : encI [] = [] := rfl
theorem encI_cons (x : Int) (l : List Int) : encI (x :: l) = B (Utf8.encode x) ++ encI l := List.flatMap_cons
theorem encI_app (a b : List Int) : encI (a ++ b) = encI a ++ encI b := List.flatMap_append
theorem dec_enc : ∀ (rs : List Int), (∀ x ∈ rs, GoodI x) → ∀ t, decU (encI rs ++ t) = rs ++ decU t
  | [], _, t => by simp [encI_nil]
  | x :: rs, h, t => by
    obtain ⟨n, hg, rfl⟩ := h x (by simp)
    have hp := utf_pos n
    have e : encI ((n : Int) :: rs) ++ t = utfN n ++ (encI rs ++ t) := by rw [encI_cons, List.append_assoc]; rfl
    have hne : utfN n ++ (encI rs ++ t) ≠ [] := by
      intro h0
      have := congrArg List.length h0
      simp only [List.length_append, List.length_nil] at this
      omega
    rw [e, decU_step hne, one_utf hg]
    rw [List.drop_append_of_le_length (Nat.le_refl _), List.drop_length, List.nil_append, dec_enc rs (fun y hy => h y (List.mem_cons_of_mem _ hy)) t]
    rfl
theorem dec_enc0 (rs : List Int) (h : ∀ x ∈ rs, GoodI x) : decU (encI rs) = rs := by
  have := dec_enc rs h []
  rwa [List.append_nil, decU_nil, List.append_nil] at this

/-! ### reading begins anew behind a small byte -/
theorem tail_stop {c : UInt8} (hc : c.toNat < 128) (b : List UInt8) : ∀ (k lo hi r n : Nat) (t : List UInt8), 128 ≤ lo → tailU k lo hi r n (t ++ c :: b) = tailU k lo hi r n t
  | 0, lo, hi, r, n, t, _ => by rw [tail_zero, tail_zero]
  | k + 1, lo, hi, r, n, [], h => by rw [List.nil_append, tail_out (by omega), tail_nil]
  | k + 1, lo, hi, r, n, x :: t, h => by
    rw [List.cons_append]
    by_cases hx : lo ≤ x.toNat ∧ x.toNat ≤ hi
    · rw [tail_in hx, tail_in hx, tail_stop hc b k _ _ _ _ t (Nat.le_refl _)]
    · rw [tail_out hx, tail_out hx]
theorem one_stop {c : UInt8} (hc : c.toNat < 128) (b : List UInt8) {a : List UInt8} (ha : a ≠ []) : oneU (a ++ c :: b) = oneU a := by
  cases a with
  | nil => exact absurd rfl ha
  | cons x t =>
    rw [List.cons_append]
    by_cases h : x.toNat < 128
    · rw [one_low h, one_low h]
    cases hl : leadU x.toNat with
    | none => rw [one_none h hl, one_none h hl]
    | some z =>
      obtain ⟨k, lo, hi⟩ := z
      rw [one_some hl, one_some hl]
      exact tail_stop hc b _ _ _ _ _ _ (by have := lead_cases hl; omega)
theorem dec_join {c : UInt8} (hc : c.toNat < 128) (b : List UInt8) : ∀ (n : Nat) (a : List UInt8), a.length ≤ n → decU (a ++ c :: b) = decU a ++ (c.toNat : Int) :: decU b
  | 0, a, h => by
    obtain rfl : a = [] := List.eq_nil_of_length_eq_zero (by omega)
    rw [List.nil_append, decU_step (by simp), one_low hc, decU_nil]
    rfl
  | n + 1, a, h => by
    by_cases ha : a = []
    · subst ha
      rw [List.nil_append, decU_step (by simp), one_low hc, decU_nil]
      rfl
    · have h1 := one_len ha
      rw [decU_step (by simp : a ++ c :: b ≠ []), one_stop hc b ha, List.drop_append_of_le_length h1.2, dec_join hc b n _ (by rw [List.length_drop]; omega), decU_step ha]
      rfl
end Go.Proofs.YtojpedgfllgbcaaDoor
