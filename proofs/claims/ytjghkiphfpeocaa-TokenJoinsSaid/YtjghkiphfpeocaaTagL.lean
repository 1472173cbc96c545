/- Tags: what is read, in plain lists of bytes. No program in sight. -/
import Derived.Test.YtjghkiphfpeocaaRefL
import Derived.Test.YtjghkiphfpeocaaAttrL
namespace Go.Proofs.Ytjghkiphfpeocaa
open Go.RowKit

def endsT : List UInt8 := [9, 10, 12, 13, 32, 47, 62, 61]
def valEnd : List UInt8 := [9, 10, 12, 13, 32, 62]
/-- A value: its text, the place behind it, and how it ended (0: lost, 1: whole, 2: with the tag). -/
abbrev Vt := List UInt8 × Nat × Nat
def bareT (l : List UInt8) (k : Nat) : Vt :=
  if untilL l valEnd k = l.length then ([], l.length, 0) else (allR true (pieceL l k (untilL l valEnd k)), untilL l valEnd k, 1)
def quotT (l : List UInt8) (c : UInt8) (k : Nat) : Vt :=
  if findL l [c] (k + 1) = l.length then ([], l.length, 0) else (allR true (pieceL l (k + 1) (findL l [c] (k + 1))), findL l [c] (k + 1) + 1, 1)
def valueT (l : List UInt8) (k : Nat) : Vt :=
  match l[k]? with
  | none => ([], l.length, 0)
  | some c => if c = 34 ∨ c = 39 then quotT l c k else if c = 62 then ([], k + 1, 2) else bareT l k
def noAt : At := ⟨⟨#[]⟩, ⟨#[]⟩⟩
abbrev Ar := At × Nat × Nat
/-- An attribute, its name from k to t. -/
def attrV (l : List UInt8) (k t : Nat) : Ar :=
  if startsL l [61] (skipL l t) = true then
    (if (valueT l (skipL l (skipL l t + 1))).2.2 = 0 then (noAt, l.length, 0)
     else (⟨S (lowL (pieceL l k t)), S (valueT l (skipL l (skipL l t + 1))).1⟩, (valueT l (skipL l (skipL l t + 1))).2.1, (valueT l (skipL l (skipL l t + 1))).2.2))
  else (⟨S (lowL (pieceL l k t)), ⟨#[]⟩⟩, skipL l t, 1)
def nameEnd (l : List UInt8) (k : Nat) : Nat := untilL l endsT (min (k + 1) l.length)
def attrT (l : List UInt8) (k : Nat) : Ar := if nameEnd l k = l.length then (noAt, l.length, 0) else attrV l k (nameEnd l k)

/-- What stands behind a tag's name: attributes, whether it closes itself, and the place behind the tag; none: it has no end. -/
abbrev Rt := Option (List At × Bool × Nat)
def restF : Nat → List UInt8 → Nat → List At → Bool → Rt
  | 0, _, _, _, _ => none
  | f + 1, l, k, al, sf =>
    match l[skipL l k]? with
    | none => none
    | some c =>
      if c = 62 then some (al, sf, skipL l k + 1)
      else if c = 47 then (if l[skipL l k + 1]? = some 62 then some (al, true, skipL l k + 2) else restF f l (skipL l k + 1) al sf)
      else if (attrT l (skipL l k)).2.2 = 0 then none
      else if (attrT l (skipL l k)).2.2 = 2 then some (addA al (attrT l (skipL l k)).1, sf, (attrT l (skipL l k)).2.1)
      else restF f l (attrT l (skipL l k)).2.1 (addA al (attrT l (skipL l k)).1) sf
def restT (l : List UInt8) (k : Nat) (al : List At) (sf : Bool) : Rt := restF (l.length + 1 - k) l k al sf

/-! ### sizes -/
theorem find_bd (l sub : List UInt8) (k : Nat) (hk : k ≤ l.length) : k ≤ findL l sub k ∧ findL l sub k ≤ l.length := ⟨findL_ge l sub k hk, findL_le l sub k hk⟩
theorem until_bd (l set : List UInt8) (k : Nat) (hk : k ≤ l.length) : k ≤ untilL l set k ∧ untilL l set k ≤ l.length := ⟨stopL_ge _ _ _, stopL_le _ _ _ hk⟩
theorem skip_bd (l : List UInt8) (k : Nat) (hk : k ≤ l.length) : k ≤ skipL l k ∧ skipL l k ≤ l.length := ⟨stopL_ge _ _ _, stopL_le _ _ _ hk⟩
theorem lt_of_at {l : List UInt8} {k : Nat} {c : UInt8} (h : l[k]? = some c) : k < l.length := (List.getElem?_eq_some_iff.1 h).1
theorem starts_lt {l : List UInt8} {k : Nat} {c : UInt8} (h : startsL l [c] k = true) : k < l.length ∧ l[k]? = some c := by
  unfold startsL Lib.occAt at h
  cases hd : l.drop k with
  | nil => rw [hd] at h; cases h
  | cons a r =>
    have hlt : k < l.length := by
      rcases Nat.lt_or_ge k l.length with h | h
      · exact h
      · rw [List.drop_eq_nil_of_le h] at hd; cases hd
    refine ⟨hlt, ?_⟩
    rw [hd] at h
    have hca : c = a := by
      have : (c == a && List.isPrefixOf [] r) = true := h
      rw [Bool.and_eq_true, beq_iff_eq] at this
      exact this.1
    rw [← List.head?_drop, hd, hca]
    rfl
theorem value_bd (l : List UInt8) (k : Nat) (hk : k ≤ l.length) : k ≤ (valueT l k).2.1 ∧ (valueT l k).2.1 ≤ l.length ∧ (valueT l k).2.2 ≤ 2 ∧ (valueT l k).1.length ≤ 6 * l.length := by
  unfold valueT
  split
  · exact ⟨hk, Nat.le_refl _, by simp only; omega, Nat.zero_le _⟩
  · rename_i c hc
    have hlt := lt_of_at hc
    split
    · unfold quotT
      have h1 := find_bd l [c] (k + 1) (by omega)
      split
      · exact ⟨hk, Nat.le_refl _, by simp only; omega, Nat.zero_le _⟩
      · have h2 := allR_len true _ (pieceL l (k + 1) (findL l [c] (k + 1))) (Nat.le_refl _)
        rw [pieceL_len _ _ _ h1.1 h1.2] at h2
        refine ⟨?_, ?_, ?_, ?_⟩ <;> simp only <;> omega
    · split
      · refine ⟨?_, ?_, ?_, ?_⟩ <;> simp only [List.length_nil] <;> omega
      · unfold bareT
        have h1 := until_bd l valEnd k hk
        split
        · exact ⟨hk, Nat.le_refl _, by simp only; omega, Nat.zero_le _⟩
        · have h2 := allR_len true _ (pieceL l k (untilL l valEnd k)) (Nat.le_refl _)
          rw [pieceL_len _ _ _ h1.1 h1.2] at h2
          refine ⟨?_, ?_, ?_, ?_⟩ <;> simp only <;> omega
theorem nameEnd_bd (l : List UInt8) (k : Nat) (hk : k < l.length) : k + 1 ≤ nameEnd l k ∧ nameEnd l k ≤ l.length := by
  unfold nameEnd
  rw [Nat.min_eq_left (by omega)]
  exact until_bd l endsT (k + 1) (by omega)
theorem attr_bd (l : List UInt8) (k : Nat) (hk : k < l.length) : k + 1 ≤ (attrT l k).2.1 ∧ (attrT l k).2.1 ≤ l.length ∧ (attrT l k).2.2 ≤ 2 := by
  have h1 := nameEnd_bd l k hk
  unfold attrT
  split
  · refine ⟨?_, ?_, ?_⟩ <;> simp only <;> omega
  · have h2 := skip_bd l (nameEnd l k) h1.2
    unfold attrV
    split
    · rename_i hs
      have h3 := (starts_lt hs).1
      have h4 := skip_bd l (skipL l (nameEnd l k) + 1) (by omega)
      have h5 := value_bd l (skipL l (skipL l (nameEnd l k) + 1)) h4.2
      split
      · refine ⟨?_, ?_, ?_⟩ <;> simp only <;> omega
      · refine ⟨?_, ?_, ?_⟩ <;> simp only <;> omega
    · refine ⟨?_, ?_, ?_⟩ <;> simp only <;> omega
theorem restF_more (l : List UInt8) : ∀ (f g k : Nat) (al : List At) (sf : Bool), l.length < f + k → l.length < g + k → k ≤ l.length → restF f l k al sf = restF g l k al sf
  | 0, g, k, al, sf, h, _, hk => by omega
  | f + 1, g, k, al, sf, h, hg, hk => by
    obtain ⟨g, rfl⟩ : ∃ m, g = m + 1 := ⟨g - 1, by omega⟩
    have h1 := skip_bd l k hk
    unfold restF
    cases hc : l[skipL l k]? with
    | none => rfl
    | some c =>
      have hlt := lt_of_at hc
      have h2 := attr_bd l (skipL l k) hlt
      simp only
      rw [restF_more l f g (skipL l k + 1) al sf (by omega) (by omega) (by omega), restF_more l f g (attrT l (skipL l k)).2.1 (addA al (attrT l (skipL l k)).1) sf (by omega) (by omega) (by omega)]
theorem restT_step (l : List UInt8) (k : Nat) (al : List At) (sf : Bool) (hk : k ≤ l.length) : restT l k al sf =
    match l[skipL l k]? with
    | none => none
    | some c =>
      if c = 62 then some (al, sf, skipL l k + 1)
      else if c = 47 then (if l[skipL l k + 1]? = some 62 then some (al, true, skipL l k + 2) else restT l (skipL l k + 1) al sf)
      else if (attrT l (skipL l k)).2.2 = 0 then none
      else if (attrT l (skipL l k)).2.2 = 2 then some (addA al (attrT l (skipL l k)).1, sf, (attrT l (skipL l k)).2.1)
      else restT l (attrT l (skipL l k)).2.1 (addA al (attrT l (skipL l k)).1) sf := by
  have e : restT l k al sf = restF (l.length - k + 1) l k al sf := by unfold restT; rw [show l.length + 1 - k = l.length - k + 1 by omega]
  rw [e]
  have h1 := skip_bd l k hk
  conv => lhs; unfold restF
  cases hc : l[skipL l k]? with
  | none => rfl
  | some c =>
    have hlt := lt_of_at hc
    have h2 := attr_bd l (skipL l k) hlt
    simp only
    unfold restT
    rw [restF_more l (l.length - k) (l.length + 1 - (skipL l k + 1)) (skipL l k + 1) al sf (by omega) (by omega) (by omega),
      restF_more l (l.length - k) (l.length + 1 - (attrT l (skipL l k)).2.1) (attrT l (skipL l k)).2.1 (addA al (attrT l (skipL l k)).1) sf (by omega) (by omega) (by omega)]

/-- A tag. -/
structure Tg where
  kind : Int
  name : List UInt8
  attrs : List At
  self : Bool
def noTg : Tg := ⟨0, [], [], false⟩
abbrev Tr := Tg × Int × Bool
def endsAt (l : List UInt8) (k : Nat) : Bool := startsL l [60, 47] k
def fromT (l : List UInt8) (k : Nat) : Nat := if endsAt l k = true then k + 2 else k + 1
def tagT (l : List UInt8) (k : Nat) : Tr :=
  if (l[fromT l k]?).any letterB = true then
    match restT l (nameL l (fromT l k)) [] false with
    | none => (noTg, (l.length : Int), false)
    | some (al, sf, n) => (if endsAt l k = true then ⟨3, lowL (pieceL l (fromT l k) (nameL l (fromT l k))), [], false⟩ else ⟨2, lowL (pieceL l (fromT l k) (nameL l (fromT l k))), al, sf⟩, (n : Int), true)
  else (noTg, (k : Int), false)
def readT (l : List UInt8) (k : Int) : Tr :=
  if k < 0 then (noTg, k, false) else if (l.drop k.toNat).head? = some 60 then tagT l k.toNat else (noTg, k, false)
end Go.Proofs.Ytjghkiphfpeocaa
