/- MarkTells, walked. -/
import Derived.Test.YtjghkiphfpeocaaMarkSame
import Derived.Test.YtjghkiphfpeocaaArgInts
import Derived.LoopN
import Derived.Deep.CutBlock
import Derived.Deep.DeepCutAuto
namespace Go.Proofs.Ytjghkiphfpeocaa
open Go.RowKit

theorem mnat_of {x lo hi : Int} (h0 : 0 ≤ lo) (h : lo ≤ x ∧ x ≤ hi) : ∃ k : Nat, x = k ∧ lo ≤ (k : Int) ∧ (k : Int) ≤ hi := ⟨x.toNat, by omega, by omega, by omega⟩
def headsA : List ByteArray := [⟨#[60, 33, 45, 45]⟩, ⟨#[60, 33]⟩, ⟨#[60, 63]⟩, ⟨#[60, 47]⟩, ⟨#[60, 33, 91, 67, 68, 65, 84, 65, 91]⟩]
/-- The beginning that a number stands for. -/
def headAtA (k : Nat) : ByteArray := headsA[k]?.getD ⟨#[]⟩
theorem headAtA_len (k : Nat) (hk : k < 5) : (headAtA k).size ≤ 9 := by
  unfold headAtA
  rw [List.getElem?_eq_getElem (show k < headsA.length from hk)]
  exact (by decide : ∀ x ∈ headsA, x.size ≤ 9) _ (List.getElem_mem _)
theorem headA_cell (w : World) (k : Nat) (hk : k < 5) : (w.alloc (.cells #[.string ⟨#[60, 33, 45, 45]⟩, .string ⟨#[60, 33]⟩, .string ⟨#[60, 63]⟩, .string ⟨#[60, 47]⟩, .string ⟨#[60, 33, 91, 67, 68, 65, 84, 65, 91]⟩] 9)).cell? ⟨w.heap.size, k, none⟩ = some (.string (headAtA k)) := by
  obtain ⟨ad, e, hc⟩ := (rd_lit w 9 headsA).2.2 (by decide)
  cases e
  have hx : headsA[k]? = some (headAtA k) := by
    unfold headAtA
    rw [List.getElem?_eq_getElem (show k < headsA.length from hk)]; rfl
  have := strs_at hc hx
  rw [add0] at this
  exact this
theorem headA_below (w : World) : Below w.heap.size w (w.alloc (.cells #[.string ⟨#[60, 33, 45, 45]⟩, .string ⟨#[60, 33]⟩, .string ⟨#[60, 63]⟩, .string ⟨#[60, 47]⟩, .string ⟨#[60, 33, 91, 67, 68, 65, 84, 65, 91]⟩] 9)) := (Below.refl _ _).alloc (Nat.le_refl _) _

set_option maxHeartbeats 2000000 in
set_option maxRecDepth 100000 in
theorem walk_MarkTells (a0 : ByteArray) (A : Option Addr) (c : Nat) (l : List Int) (how at_ : Int) (fo : Bool) (w0 : a0.size ≤ maxLen) (w : World) (hL : Lax w) (hr : Rd w A l.length 1 (l.flatMap enc_int)) (_hlc : l.length ≤ c) (_hcm : c ≤ maxLen) :
    Calls Try.prog 4 #[.string a0, .slice A l.length c, .int .i64 how, .int .i64 at_, .bool fo] w fun e w' => e = .returned (.bool true) ∧ Below w.heap.size w w' := by
  unfold maxLen at w0
  have hs := headB_le a0 60
  have HR := Lib.hid hr
  have HL := Lib.hid hL
  clear hr hL
  go_enter Try.func4, Try.ntmps4
  go_wp2_with fail
  refine (head_any _ _ _ (by omega) (by omega)).mono ?_
  rintro e w1 ⟨rfl, rfl⟩
  rw [show (60 : Int).toNat = 60 from rfl]
  generalize headB a0 60 = s at *
  go_wp2_with fail
  refine (bwithin_any _ _ _ _ (by omega) (by omega) (by omega)).mono ?_
  rintro e w1 ⟨rfl, rfl⟩
  obtain ⟨k, hk, hk1, hk2⟩ := mnat_of (Int.le_refl 0) (withinI_bd how 0 4 (by omega))
  rw [hk]
  clear hk
  have hcell := headA_cell w k (by omega)
  have hb0 := headA_below w
  have hlen := headAtA_len k (by omega)
  generalize headAtA k = x at *
  have HC := Lib.hid hcell
  have HB0 := Lib.hid hb0
  have HX := Lib.hid hlen
  clear hb0 hlen
  go_wp2_with fail
  clear hcell
  have hb0 := HB0.out
  obtain ⟨wa, hwa⟩ : ∃ wa, wa = w.alloc (.cells #[.string ⟨#[60, 33, 45, 45]⟩, .string ⟨#[60, 33]⟩, .string ⟨#[60, 63]⟩, .string ⟨#[60, 47]⟩, .string ⟨#[60, 33, 91, 67, 68, 65, 84, 65, 91]⟩] 9) := ⟨_, rfl⟩
  rw [← hwa] at hb0 HB0 HC
  rw [show w.alloc (.cells #[.string ⟨#[60, 33, 45, 45]⟩, .string ⟨#[60, 33]⟩, .string ⟨#[60, 63]⟩, .string ⟨#[60, 47]⟩, .string ⟨#[60, 33, 91, 67, 68, 65, 84, 65, 91]⟩] 9) = wa from hwa.symm]
  clear hwa
  go_loopw [11, 12] (fun xv iv wr => ∃ (j : Nat) (x : ByteArray), j ≤ l.length ∧ j ≤ 20 ∧ x.size ≤ 9 + 7 * j ∧ xv = .string x ∧ iv = .int .i64 j ∧ Below w.heap.size w wr) (fun _ iv _ => l.length - (intOf iv).toNat)
  case atStart => exact ⟨0, x, Nat.zero_le _, by omega, HX.out, rfl, rfl, HB0.out⟩
  case round =>
    obtain ⟨j, x, hj, hj20, hx, rfl, rfl, hb⟩ := hrel
    have HB := Lib.hid hb
    clear hb
    by_cases hlt : j < l.length ∧ j < 20
    · obtain ⟨hlt, h20⟩ := hlt
      have d0 : decide ((j : Int) < (l.length : Int)) = true := decide_eq_true (by omega)
      have d1 : decide ((j : Int) < 20) = true := decide_eq_true (by omega)
      obtain ⟨y, hy⟩ : ∃ y, l[j]? = some y := ⟨_, List.getElem?_eq_getElem hlt⟩
      obtain ⟨a1, rfl, hc1⟩ := (HR.out.keep HB.out).2.2 (by omega)
      have k1 := hc1 j _ (by have := row_at encOk_int l j 0 y _ hy rfl; simpa using this)
      have s1 : IntKind.i64.wrap ((j : Int) + 1) = (j : Int) + 1 := IntWalk.i64_in _ (by omega)
      have hp := pieceAt_len y
      clear hc1 hy
      go_wp2_with fail
      refine (piece_any y _).mono ?_
      rintro e w2 ⟨rfl, b2⟩
      have HB2 := Lib.hid (below_then HB.out HB.out.size b2)
      have hsum : x.size + (pieceAt y).size ≤ 9223372036854775807 := by omega
      generalize pieceAt y = z at *
      clear b2
      go_wp2_with fail
      exact ⟨⟨j + 1, x ++ z, by omega, by omega, by rw [ByteArray.size_append]; omega, rfl, by go_num, HB2.out⟩, by simp [intOf]; omega⟩
    · have hcase : (decide ((j : Int) < (l.length : Int)) = false ∧ ¬ j < l.length) ∨ (decide ((j : Int) < (l.length : Int)) = true ∧ decide ((j : Int) < 20) = false ∧ j < l.length ∧ ¬ j < 20) := by
        by_cases h1 : j < l.length
        · exact .inr ⟨decide_eq_true (by omega), decide_eq_false (by omega), h1, by omega⟩
        · exact .inl ⟨decide_eq_false (by omega), h1⟩
      have hx2 : x.size ≤ 149 := by omega
      have S1 := Lib.hid (fun w' (h : Below w.heap.size w w') => msame_any s at_ fo w' (by omega) (HL.out.below h))
      have S2 := Lib.hid (fun w' (h : Below w.heap.size w w') => msame_any (⟨#[60, 33]⟩ ++ s) 0 fo w' (by rw [ByteArray.size_append]; show 2 + s.size ≤ 65536; omega) (HL.out.below h))
      have S3 := Lib.hid (fun w' (h : Below w.heap.size w w') => msame_any x 0 fo w' (by omega) (HL.out.below h))
      have S4 := Lib.hid (fun (at_ : Int) w' (h : Below w.heap.size w w') => msame_any (x ++ s) at_ fo w' (by rw [ByteArray.size_append]; omega) (HL.out.below h))
      have hs1 : (⟨#[60, 33]⟩ : ByteArray).size + s.size ≤ 9223372036854775807 := by show 2 + s.size ≤ _; omega
      have hs2 : x.size + s.size ≤ 9223372036854775807 := by omega
      have HW := Lib.hid (fun w => bwithin_any at_ 0 (x.size : Int) w (by omega) (by omega) (by omega))
      clear hlt
      rcases hcase with ⟨d0, m0⟩ | ⟨d0, d1, m0, m1⟩
      all_goals
        go_wp2_with fail
        refine (S1.out _ HB.out).mono ?_
        rintro e w1 ⟨rfl, b1⟩
        have HB1 := Lib.hid (below_then HB.out HB.out.size b1)
        clear b1
        go_wp2_with fail
        refine (S2.out _ HB1.out).mono ?_
        rintro e w2 ⟨rfl, b2⟩
        have HB2 := Lib.hid (below_then HB1.out HB1.out.size b2)
        clear b2
        go_wp2_with fail
        refine (S3.out _ HB2.out).mono ?_
        rintro e w3 ⟨rfl, b3⟩
        have HB3 := Lib.hid (below_then HB2.out HB2.out.size b3)
        clear b3
        go_wp2_with fail
        refine (HW.out _).mono ?_
        rintro e w' ⟨rfl, rfl⟩
        go_wp2_with fail
        refine (S4.out _ _ HB3.out).mono ?_
        rintro e w4 ⟨rfl, b4⟩
        have HB4 := Lib.hid (below_then HB3.out HB3.out.size b4)
        clear b4
        go_wp2_with fail
        refine (mknown_any _ (HL.out.below HB4.out)).mono ?_
        rintro e w5 ⟨rfl, b5⟩
        have HB5 := Lib.hid (below_then HB4.out HB4.out.size b5)
        clear b5
        go_wp2_with fail
        go_ret
        exact ⟨rfl, HB5.out⟩
end Go.Proofs.Ytjghkiphfpeocaa
