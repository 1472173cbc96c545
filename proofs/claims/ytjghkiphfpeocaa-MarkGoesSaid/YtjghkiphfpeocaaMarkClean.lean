/- A comment that is written is read: the plain law. No program in sight. -/
import Derived.Test.YtjghkiphfpeocaaMarkRead
import Derived.Laws.Cover4
import Derived.Laws.RangeAny
namespace Go.Proofs.Ytjghkiphfpeocaa
open Go.RowKit

/-- No sign of a comment's end. -/
def cleanL (l : List UInt8) : Prop := ∀ c ∈ l, c ≠ 45 ∧ c ≠ 62 ∧ c ≠ 33
theorem clean_app {a b : List UInt8} (h1 : cleanL a) (h2 : cleanL b) : cleanL (a ++ b) := fun c hc => by
  rcases List.mem_append.1 hc with h | h
  · exact h1 c h
  · exact h2 c h
theorem clean_ofNat {n : Nat} (h : n < 256) (h1 : n ≠ 45) (h2 : n ≠ 62) (h3 : n ≠ 33) : UInt8.ofNat n ≠ 45 ∧ UInt8.ofNat n ≠ 62 ∧ UInt8.ofNat n ≠ 33 := by
  refine ⟨fun e => ?_, fun e => ?_, fun e => ?_⟩
  all_goals
    have := congrArg UInt8.toNat e
    simp only [UInt8.toNat_ofNat'] at this
    simp at this
    omega
theorem clean_enc (r : Nat) (h1 : r ≠ 45) (h2 : r ≠ 62) (h3 : r ≠ 33) : cleanL (B (Utf8.encode (r : Int))) := by
  have key : ∀ c : Nat, c ≤ 0x10FFFF → c ≠ 45 → c ≠ 62 → c ≠ 33 → cleanL (B (if c < 0x80 then ⟨#[UInt8.ofNat c]⟩
      else if c < 0x800 then ⟨#[UInt8.ofNat (0xC0 + c / 64), UInt8.ofNat (0x80 + c % 64)]⟩
      else if c < 0x10000 then ⟨#[UInt8.ofNat (0xE0 + c / 4096), UInt8.ofNat (0x80 + c / 64 % 64), UInt8.ofNat (0x80 + c % 64)]⟩
      else ⟨#[UInt8.ofNat (0xF0 + c / 262144), UInt8.ofNat (0x80 + c / 4096 % 64), UInt8.ofNat (0x80 + c / 64 % 64), UInt8.ofNat (0x80 + c % 64)]⟩)) := by
    intro c hc n1 n2 n3
    have one : ∀ n, n < 256 → n ≠ 45 → n ≠ 62 → n ≠ 33 → ∀ l, cleanL l → cleanL (UInt8.ofNat n :: l) := fun n a b d e l hl z hz => by
      rcases List.mem_cons.1 hz with rfl | hz
      · exact clean_ofNat a b d e
      · exact hl z hz
    have none' : cleanL [] := fun z hz => absurd hz (by simp)
    split
    · exact one _ (by omega) n1 n2 n3 _ none'
    · split
      · exact one _ (by omega) (by omega) (by omega) (by omega) _ (one _ (by omega) (by omega) (by omega) (by omega) _ none')
      · split
        · exact one _ (by omega) (by omega) (by omega) (by omega) _ (one _ (by omega) (by omega) (by omega) (by omega) _ (one _ (by omega) (by omega) (by omega) (by omega) _ none'))
        · exact one _ (by omega) (by omega) (by omega) (by omega) _ (one _ (by omega) (by omega) (by omega) (by omega) _ (one _ (by omega) (by omega) (by omega) (by omega) _ (one _ (by omega) (by omega) (by omega) (by omega) _ none')))
  unfold Utf8.encode
  by_cases hv : Utf8.valid (r : Int) = true
  · rw [if_pos hv, Int.toNat_natCast]
    refine key r ?_ h1 h2 h3
    unfold Utf8.valid at hv
    simp at hv
    omega
  · rw [if_neg hv]
    exact key Utf8.runeError (by decide) (by decide) (by decide) (by decide)
theorem occ_byte {l sub : List UInt8} {k : Nat} {c : UInt8} {t : List UInt8} (hs : sub = c :: t) (h : Lib.occAt l sub k = true) : l[k]? = some c := by
  subst hs
  unfold Lib.occAt at h
  rw [List.isPrefixOf_iff_prefix] at h
  obtain ⟨r, hr⟩ := h
  have : (l.drop k)[0]? = some c := by rw [← hr]; rfl
  rwa [List.getElem?_drop, Nat.add_zero] at this
/-- What is written is read. -/
theorem comment_read (x m : List UInt8) (hx : cleanL x) : readM (beginA ++ x ++ endA ++ m) 0 false = (⟨5, [], x⟩, ((x.length + 7 : Nat) : Int), true) := by
  have hat : ∀ j, j < x.length → ∀ c, (beginA ++ x ++ endA ++ m)[4 + j]? = some c → c ≠ 45 ∧ c ≠ 62 ∧ c ≠ 33 := by
    intro j hj c hc
    rw [List.append_assoc, List.append_assoc, List.getElem?_append_right (by show 4 ≤ 4 + j; omega), show 4 + j - beginA.length = j from by show 4 + j - 4 = j; omega, List.getElem?_append_left hj] at hc
    exact hx c (List.mem_of_getElem? hc)
  have hend : (beginA ++ x ++ endA ++ m).drop (4 + x.length) = endA ++ m := by
    rw [show beginA ++ x ++ endA ++ m = (beginA ++ x) ++ (endA ++ m) by simp, List.drop_append_of_le_length (by simp [beginA]; omega), List.drop_eq_nil_of_le (by simp [beginA]; omega), List.nil_append]
  have hlen : (beginA ++ x ++ endA ++ m).length = 4 + x.length + 3 + m.length := by simp [beginA, endA]; omega
  have hst : startsL (beginA ++ x ++ endA ++ m) beginA 0 = true := by
    unfold startsL Lib.occAt
    rw [List.isPrefixOf_iff_prefix, List.drop_zero, List.append_assoc, List.append_assoc]
    exact List.prefix_append _ _
  have hpiece : pieceL (beginA ++ x ++ endA ++ m) 4 (4 + x.length) = x := by
    unfold pieceL
    rw [show beginA ++ x ++ endA ++ m = beginA ++ (x ++ (endA ++ m)) by simp, show (4 : Nat) = beginA.length from rfl, List.drop_left, show beginA.length + x.length - beginA.length = x.length by omega, List.take_left]
  generalize beginA ++ x ++ endA ++ m = l at *
  have oa : Lib.occAt l endA (4 + x.length) = true := by
    unfold Lib.occAt
    rw [hend, List.isPrefixOf_iff_prefix]
    exact List.prefix_append _ _
  have ob : Lib.occAt l endB (4 + x.length) = false := by
    unfold Lib.occAt
    rw [hend]
    rfl
  have na : ∀ j, 4 ≤ j → j < 4 + x.length → Lib.occAt l endA j = false := fun j h1 h2 => by
    cases h : Lib.occAt l endA j with
    | false => rfl
    | true => exact absurd rfl (hat (j - 4) (by omega) 45 (by rw [show 4 + (j - 4) = j by omega]; exact occ_byte rfl h)).1
  have nb : ∀ j, 4 ≤ j → j < 4 + x.length → Lib.occAt l endB j = false := fun j h1 h2 => by
    cases h : Lib.occAt l endB j with
    | false => rfl
    | true => exact absurd rfl (hat (j - 4) (by omega) 45 (by rw [show 4 + (j - 4) = j by omega]; exact occ_byte rfl h)).1
  have fa : findL l endA 4 = 4 + x.length := findL_first l endA 4 _ (by omega) (by omega) oa na
  have fb : 4 + x.length < findL l endB 4 := by
    obtain ⟨h1, _⟩ := findL_cases l endB 4 (by omega)
    have h2 := findL_ge l endB 4 (by omega)
    rcases h1 with h1 | h1
    · rcases Nat.lt_trichotomy (findL l endB 4) (4 + x.length) with c | c | c
      · rw [nb _ h2 c] at h1; exact absurd h1 (by decide)
      · rw [c, ob] at h1; exact absurd h1 (by decide)
      · exact c
    · omega
  have s1 : startsL l [62] 4 = false := by
    cases h : startsL l [62] 4 with
    | false => rfl
    | true =>
      have hc := occ_byte rfl h
      cases x with
      | nil =>
        have : (l.drop 4)[0]? = some 45 := by rw [show (4 : Nat) = 4 + ([] : List UInt8).length from rfl, hend]; rfl
        rw [List.getElem?_drop, hc] at this
        exact absurd this (by decide)
      | cons a t => exact absurd rfl (hat 0 (by simp) 62 hc).2.1
  have s2 : startsL l [45, 62] 4 = false := by
    cases h : startsL l [45, 62] 4 with
    | false => rfl
    | true =>
      cases x with
      | nil =>
        unfold startsL Lib.occAt at h
        rw [show (4 : Nat) = 4 + ([] : List UInt8).length from rfl, hend] at h
        exact absurd h (by simp [endA])
      | cons a t => exact absurd rfl (hat 0 (by simp) 45 (occ_byte rfl h)).1
  unfold readM
  rw [if_neg (by omega), show (0 : Int).toNat = 0 from rfl, if_pos hst, Nat.zero_add]
  unfold commentM
  rw [if_neg (by rw [s1]; decide), if_neg (by rw [s2]; decide), if_pos (by rw [fa]; exact fb), fa, hpiece, show 4 + x.length + 3 = x.length + 7 by omega]
end Go.Proofs.Ytjghkiphfpeocaa
