/- Two lists, thing by thing; the least number of which something holds. No program in sight. -/
import Derived.Test.YtojpedgfllgbcaaDoorBase
namespace Go.Proofs.YtojpedgfllgbcaaDoor

inductive Both {α β : Type} (R : α → β → Prop) : List α → List β → Prop
  | nil : Both R [] []
  | cons {x : α} {y : β} {a : List α} {b : List β} : R x y → Both R a b → Both R (x :: a) (y :: b)
theorem Both.len {α β : Type} {R : α → β → Prop} {a : List α} {b : List β} (h : Both R a b) : a.length = b.length := by
  induction h with
  | nil => rfl
  | cons _ _ ih => rw [List.length_cons, List.length_cons, ih]
theorem Both.imp {α β : Type} {R S : α → β → Prop} (hi : ∀ x y, R x y → S x y) {a : List α} {b : List β} (h : Both R a b) : Both S a b := by
  induction h with
  | nil => exact .nil
  | cons h1 _ ih => exact .cons (hi _ _ h1) ih
/-- A pile, its top last, that stands for a list, its top first. -/
def Top {α β : Type} (R : α → β → Prop) (vs : List α) (js : List β) : Prop := Both R vs.reverse js
section
variable {α β : Type} {R : α → β → Prop} {vs : List α} {js : List β}
theorem Top.nil : Top R [] [] := Both.nil
theorem Top.push {x : α} {j : β} (h : Top R vs js) (hx : R x j) : Top R (vs ++ [x]) (j :: js) := by
  unfold Top
  rw [List.reverse_append]
  exact .cons hx h
theorem Top.len (h : Top R vs js) : vs.length = js.length := by
  have := Both.len h
  rwa [List.length_reverse] at this
theorem Top.pop {j : β} (h : Top R vs (j :: js)) : ∃ vs' x, vs = vs' ++ [x] ∧ R x j ∧ Top R vs' js := by
  unfold Top at h
  cases hr : vs.reverse with
  | nil => rw [hr] at h; cases h
  | cons x t =>
    rw [hr] at h
    cases h with
    | cons hx ht =>
      refine ⟨t.reverse, x, ?_, hx, ?_⟩
      · have := congrArg List.reverse hr
        simpa using this
      · unfold Top; rw [List.reverse_reverse]; exact ht
theorem Top.none (h : Top R vs []) : vs = [] := by
  have := h.len
  exact List.eq_nil_of_length_eq_zero (by simpa using this)
theorem Top.imp {S : α → β → Prop} (hi : ∀ x y, R x y → S x y) (h : Top R vs js) : Top S vs js := Both.imp hi h
end
/-- The least number of which something holds. -/
noncomputable def least (P : Nat → Prop) : Nat := Classical.epsilon (fun n => P n ∧ ∀ m, P m → n ≤ m)
theorem least_ex {P : Nat → Prop} (n : Nat) : P n → ∃ k, P k ∧ ∀ m, P m → k ≤ m := by
  induction n using Nat.strongRecOn with
  | ind n ih =>
    intro h
    rcases Classical.em (∃ m, m < n ∧ P m) with ⟨m, hm, hp⟩ | hn
    · exact ih m hm hp
    · refine ⟨n, h, fun m hp => ?_⟩
      rcases Nat.lt_or_ge m n with hl | hl
      · exact absurd ⟨m, hl, hp⟩ hn
      · exact hl
theorem least_mem {P : Nat → Prop} {n : Nat} (h : P n) : P (least P) := (Classical.epsilon_spec (least_ex n h)).1
theorem least_le {P : Nat → Prop} {n : Nat} (h : P n) : least P ≤ n := (Classical.epsilon_spec (least_ex n h)).2 n h
end Go.Proofs.YtojpedgfllgbcaaDoor
