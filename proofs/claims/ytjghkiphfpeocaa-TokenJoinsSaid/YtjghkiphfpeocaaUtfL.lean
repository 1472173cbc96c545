/- UTF-8: what was encoded is decoded again. No program in sight. -/
import Derived.Test.YtjghkiphfpeocaaStr
import Derived.Laws.Runes
import Derived.Laws.Cover4
import Derived.Laws.IdiomStrings
import Derived.Laws.RangeAny
namespace Go.Proofs.Ytjghkiphfpeocaa
open Go.RowKit

/-- A rune that is no half of a pair. -/
def goodR (c : Nat) : Prop := c < 55296 ∨ (57344 ≤ c ∧ c ≤ 1114111)
theorem good_valid {c : Nat} (h : goodR c) : Utf8.valid (c : Int) = true := by
  unfold goodR at h
  unfold Utf8.valid
  rw [Bool.or_eq_true, Bool.and_eq_true, Bool.and_eq_true]
  simp only [decide_eq_true_eq]
  omega
theorem enc_one {c : Nat} (h : c < 128) : Utf8.encode (c : Int) = ⟨#[UInt8.ofNat c]⟩ := by
  unfold Utf8.encode
  dsimp only
  rw [if_pos (good_valid (.inl (by omega))), Int.toNat_natCast, if_pos h]
theorem enc_two {c : Nat} (h1 : 128 ≤ c) (h : c < 2048) : Utf8.encode (c : Int) = ⟨#[UInt8.ofNat (192 + c / 64), UInt8.ofNat (128 + c % 64)]⟩ := by
  unfold Utf8.encode
  dsimp only
  rw [if_pos (good_valid (.inl (by omega))), Int.toNat_natCast, if_neg (by omega), if_pos h]
theorem enc_three {c : Nat} (hg : goodR c) (h1 : 2048 ≤ c) (h : c < 65536) : Utf8.encode (c : Int) = ⟨#[UInt8.ofNat (224 + c / 4096), UInt8.ofNat (128 + c / 64 % 64), UInt8.ofNat (128 + c % 64)]⟩ := by
  unfold Utf8.encode
  dsimp only
  rw [if_pos (good_valid hg), Int.toNat_natCast, if_neg (by omega), if_neg (by omega), if_pos h]
theorem enc_four {c : Nat} (hg : goodR c) (h1 : 65536 ≤ c) : Utf8.encode (c : Int) = ⟨#[UInt8.ofNat (240 + c / 262144), UInt8.ofNat (128 + c / 4096 % 64), UInt8.ofNat (128 + c / 64 % 64), UInt8.ofNat (128 + c % 64)]⟩ := by
  unfold Utf8.encode
  dsimp only
  rw [if_pos (good_valid hg), Int.toNat_natCast, if_neg (by omega), if_neg (by omega), if_neg (by omega)]
theorem ofNat_nat {n : Nat} (h : n < 256) : (UInt8.ofNat n).toNat = n := by
  rw [UInt8.toNat_ofNat']; omega
/-- What stands at a place, decoded. -/
theorem decode_of {s : ByteArray} {i c : Nat} (hg : goodR c) (hsz : i + (Utf8.encode (c : Int)).size ≤ s.size) (hb : ∀ k, k < (Utf8.encode (c : Int)).size → s.get! (i + k) = (Utf8.encode (c : Int)).get! k) :
    Utf8.decode s i = (c, (Utf8.encode (c : Int)).size) := by
  unfold goodR at hg
  rcases Nat.lt_or_ge c 128 with h1 | h1
  · rw [enc_one h1] at hb hsz ⊢
    have b0 : s.get! (i + 0) = UInt8.ofNat c := hb 0 (by show 0 < 1; omega)
    unfold Utf8.decode
    simp only [b0]
    rw [if_pos (by rw [ofNat_nat (by omega)]; omega), ofNat_nat (by omega)]
    rfl
  · rcases Nat.lt_or_ge c 2048 with h2 | h2
    · rw [enc_two h1 h2] at hb hsz ⊢
      have hsz : i + 2 ≤ s.size := hsz
      have b0 : s.get! (i + 0) = UInt8.ofNat (192 + c / 64) := hb 0 (by show 0 < 2; omega)
      have b1 : s.get! (i + 1) = UInt8.ofNat (128 + c % 64) := hb 1 (by show 1 < 2; omega)
      unfold Utf8.decode
      simp only [b0, b1]
      rw [ofNat_nat (by omega), ofNat_nat (by omega), if_neg (by omega), if_pos (by rw [Bool.and_eq_true, Bool.and_eq_true, beq_iff_eq, beq_iff_eq, decide_eq_true_eq]; omega)]
      rw [if_pos (by omega)]
      show (_, 2) = (_, 2)
      congr 1; omega
    · rcases Nat.lt_or_ge c 65536 with h3 | h3
      · rw [enc_three hg h2 h3] at hb hsz ⊢
        have hsz : i + 3 ≤ s.size := hsz
        have b0 : s.get! (i + 0) = UInt8.ofNat (224 + c / 4096) := hb 0 (by show 0 < 3; omega)
        have b1 : s.get! (i + 1) = UInt8.ofNat (128 + c / 64 % 64) := hb 1 (by show 1 < 3; omega)
        have b2 : s.get! (i + 2) = UInt8.ofNat (128 + c % 64) := hb 2 (by show 2 < 3; omega)
        have hc : (224 + c / 4096) % 16 * 4096 + (128 + c / 64 % 64) % 64 * 64 + (128 + c % 64) % 64 = c := by omega
        unfold Utf8.decode
        simp only [b0, b1, b2]
        rw [ofNat_nat (by omega), ofNat_nat (by omega), ofNat_nat (by omega), if_neg (by omega), if_neg (by rw [Bool.and_eq_true, beq_iff_eq]; omega), if_pos (by simp only [Bool.and_eq_true, beq_iff_eq, decide_eq_true_eq]; omega), hc]
        rw [if_pos (by rw [Bool.and_eq_true, good_valid hg, decide_eq_true_eq]; exact ⟨h2, rfl⟩)]
        rfl
      · rw [enc_four hg h3] at hb hsz ⊢
        have hsz : i + 4 ≤ s.size := hsz
        have b0 : s.get! (i + 0) = UInt8.ofNat (240 + c / 262144) := hb 0 (by show 0 < 4; omega)
        have b1 : s.get! (i + 1) = UInt8.ofNat (128 + c / 4096 % 64) := hb 1 (by show 1 < 4; omega)
        have b2 : s.get! (i + 2) = UInt8.ofNat (128 + c / 64 % 64) := hb 2 (by show 2 < 4; omega)
        have b3 : s.get! (i + 3) = UInt8.ofNat (128 + c % 64) := hb 3 (by show 3 < 4; omega)
        have hc : (240 + c / 262144) % 8 * 262144 + (128 + c / 4096 % 64) % 64 * 4096 + (128 + c / 64 % 64) % 64 * 64 + (128 + c % 64) % 64 = c := by omega
        unfold Utf8.decode
        simp only [b0, b1, b2, b3]
        rw [ofNat_nat (by omega), ofNat_nat (by omega), ofNat_nat (by omega), ofNat_nat (by omega), if_neg (by omega), if_neg (by rw [Bool.and_eq_true, beq_iff_eq]; omega), if_neg (by simp only [Bool.and_eq_true, beq_iff_eq]; omega), if_pos (by simp only [Bool.and_eq_true, beq_iff_eq, decide_eq_true_eq]; omega), hc]
        rw [if_pos (by rw [Bool.and_eq_true, good_valid hg, decide_eq_true_eq]; exact ⟨h3, rfl⟩)]
        rfl
theorem enc_size (c : Nat) : 1 ≤ (Utf8.encode (c : Int)).size := by
  unfold Utf8.encode
  dsimp only
  repeat' split
  all_goals first | (show 1 ≤ 1; omega) | (show 1 ≤ 2; omega) | (show 1 ≤ 3; omega) | (show 1 ≤ 4; omega)
theorem runes_end (s : ByteArray) (b : Nat) (acc : Array Value) : Conv.runesFrom s b s.size acc = acc := by
  cases b with
  | zero => unfold Conv.runesFrom; rfl
  | succ b => unfold Conv.runesFrom; rw [if_neg (by omega)]
theorem runes_step (s : ByteArray) (b i : Nat) (acc : Array Value) (h : i < s.size) : Conv.runesFrom s (b + 1) i acc = Conv.runesFrom s b (i + (Utf8.decode s i).2) (acc.push (.int .i32 (Int.ofNat (Utf8.decode s i).1))) := by
  conv => lhs; unfold Conv.runesFrom
  rw [if_pos h]
theorem runes_one (s : ByteArray) (c : Nat) (hd : Utf8.decode s 0 = (c, s.size)) (h1 : 1 ≤ s.size) : (Conv.runesFrom s s.size 0 #[]).size = 1 := by
  obtain ⟨m, hm⟩ : ∃ m, s.size = m + 1 := ⟨s.size - 1, by omega⟩
  have e : Conv.runesFrom s s.size 0 #[] = Conv.runesFrom s (m + 1) 0 #[] := by rw [hm]
  rw [e, runes_step s m 0 #[] (by omega), hd]
  simp only [Nat.zero_add]
  rw [runes_end, Array.size_push]
  rfl
theorem decode_whole {c : Nat} (hg : goodR c) : Utf8.decode (Utf8.encode (c : Int)) 0 = (c, (Utf8.encode (c : Int)).size) :=
  decode_of hg (Nat.le_of_eq (Nat.zero_add _)) (fun k _ => congrArg (fun j => (Utf8.encode (c : Int)).get! j) (Nat.zero_add k))
/-- One rune alone. -/
theorem one_rune {c : Nat} (hg : goodR c) : (Conv.runesFrom (Utf8.encode (c : Int)) (Utf8.encode (c : Int)).size 0 #[]).size = 1 := runes_one _ c (decode_whole hg) (enc_size c)
end Go.Proofs.Ytjghkiphfpeocaa
