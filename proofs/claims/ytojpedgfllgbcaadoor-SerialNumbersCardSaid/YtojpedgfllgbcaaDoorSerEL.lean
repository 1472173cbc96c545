/- What is escaped by replacing, one after the other, is what is escaped byte by byte. No program in sight. -/
import Derived.Test.YtojpedgfllgbcaaDoorTrL
import Derived.Test.YtojpedgfllgbcaaDoorUtf1
namespace Go.Proofs.YtojpedgfllgbcaaDoor

def oneR (b : UInt8) (new : List UInt8) (c : UInt8) : List UInt8 := if c = b then new else [c]
theorem sub_one (b : UInt8) (new : List UInt8) (l : List UInt8) : subA [b] new l = l.flatMap (oneR b new) := by
  induction l with
  | nil => exact subA_nil _ _ (by simp)
  | cons c t ih =>
    rw [List.flatMap_cons]
    unfold oneR
    split
    · rename_i h
      rw [h, subA_hit new (by simp) (by simp [List.isPrefixOf]), List.length_cons, List.length_nil, List.drop_succ_cons, List.drop_zero, ih]; rfl
    · rename_i h
      rw [subA_miss new (by simp) (by simp [List.isPrefixOf]; exact fun e => h e.symm), ih]; rfl
theorem subA_len (old new : List UInt8) (h : old ≠ []) : ∀ (n : Nat) (s : List UInt8), s.length ≤ n → (subA old new s).length ≤ (new.length + 1) * s.length
  | _, [], _ => by rw [subA_nil _ _ h]; simp
  | 0, c :: t, hn => by simp at hn
  | n + 1, c :: t, hn => by
    have ho : 1 ≤ old.length := by cases old with
      | nil => exact absurd rfl h
      | cons a o => simp
    by_cases hp : old.isPrefixOf (c :: t) = true
    · rw [subA_hit new h hp, List.length_append]
      have hd : ((c :: t).drop old.length).length = t.length + 1 - old.length := by rw [List.length_drop, List.length_cons]
      have := subA_len old new h n ((c :: t).drop old.length) (by rw [hd]; simp at hn; omega)
      have hm : (new.length + 1) * ((c :: t).drop old.length).length ≤ (new.length + 1) * t.length := Nat.mul_le_mul_left _ (by rw [hd]; omega)
      rw [List.length_cons, Nat.mul_add]
      omega
    · rw [subA_miss new h (Bool.eq_false_iff.2 hp), List.length_cons, List.length_cons]
      have := subA_len old new h n t (by simp at hn; omega)
      rw [Nat.mul_add]
      omega
def lastR (attr : Bool) (c : UInt8) : List UInt8 := if attr = true then oneR 34 quotL c else (oneR 60 ltL c).flatMap (oneR 62 gtL)
theorem last_one (attr : Bool) {c : UInt8} (h : c ≠ 38) : lastR attr c = escY attr c := by
  unfold lastR escY oneR
  rw [if_neg h]
  cases attr
  · simp only [Bool.false_eq_true, if_false, false_and, true_and]
    by_cases h1 : c = 60
    · rw [if_pos h1, if_pos h1]; rfl
    · rw [if_neg h1, if_neg h1]
      by_cases h2 : c = 62
      · simp [h2]
      · simp [h2]
  · simp
theorem esc_all (attr : Bool) : ∀ (n : Nat) (s : List UInt8), s.length ≤ n → (subA [194, 160] nbspL (s.flatMap (oneR 38 ampL))).flatMap (lastR attr) = escT attr s
  | _, [], _ => by rw [List.flatMap_nil, subA_nil _ _ (by simp)]; rfl
  | 0, c :: t, h => by simp at h
  | n + 1, c :: t, h => by
    have hl : t.length ≤ n := by simpa using h
    by_cases hs : c = 194 ∧ t.head? = some 160
    · obtain ⟨rfl, hh⟩ := hs
      cases t with
      | nil => cases hh
      | cons d t =>
        obtain rfl : d = 160 := by simpa using hh
        rw [escT_nbsp, ← esc_all attr n t (by simp at hl; omega)]
        have e : (194 :: 160 :: t).flatMap (oneR 38 ampL) = 194 :: 160 :: t.flatMap (oneR 38 ampL) := rfl
        rw [e, subA_hit nbspL (by simp) (by simp [List.isPrefixOf]), List.flatMap_append]
        congr 1
        cases attr <;> rfl
    · rw [escT_cons attr c t hs, ← esc_all attr n t hl, List.flatMap_cons]
      by_cases hc : c = 38
      · have e : oneR 38 ampL c = ampL := by unfold oneR; rw [if_pos hc]
        rw [e, subA_pass nbspL ampL _ (by decide), List.flatMap_append, hc]
        congr 1
        cases attr <;> rfl
      · have e : oneR 38 ampL c = [c] := by unfold oneR; rw [if_neg hc]
        rw [e, List.singleton_append, subA_miss nbspL (by simp) (by
          cases hp : ([194, 160] : List UInt8).isPrefixOf (c :: t.flatMap (oneR 38 ampL)) with
          | false => rfl
          | true =>
            exfalso
            simp [List.isPrefixOf] at hp
            obtain ⟨h1, h2⟩ := hp
            refine hs ⟨h1.symm, ?_⟩
            cases t with
            | nil => simp at h2
            | cons d t =>
              rw [List.flatMap_cons] at h2
              unfold oneR at h2
              split at h2
              · simp [ampL] at h2
              · simp at h2
                simp [h2]), List.flatMap_cons, last_one attr hc]
theorem esc_true (s : List UInt8) : subA [34] quotL (subA [194, 160] nbspL (subA [38] ampL s)) = escT true s := by
  rw [sub_one, sub_one, ← esc_all true _ s (Nat.le_refl _)]
  rfl
theorem esc_false (s : List UInt8) : subA [62] gtL (subA [60] ltL (subA [194, 160] nbspL (subA [38] ampL s))) = escT false s := by
  rw [sub_one, sub_one, sub_one, ← esc_all false _ s (Nat.le_refl _), List.flatMap_assoc]
  rfl
end Go.Proofs.YtojpedgfllgbcaaDoor
