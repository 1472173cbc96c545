/- MarkNumbers, walked. -/
import Derived.Test.YtjghkiphfpeocaaMarkSame
import Derived.LoopN
import Derived.Deep.CutBlock
import Derived.Deep.DeepCutAuto
namespace Go.Proofs.Ytjghkiphfpeocaa
open Go.RowKit

def marksN : List ByteArray := [⟨#[60, 33, 45, 45, 97, 45, 45, 33, 62, 98]⟩, ⟨#[60, 33, 45, 45, 62]⟩, ⟨#[60, 33, 45, 45, 45, 62]⟩, ⟨#[60, 33, 45, 45, 45, 45, 62]⟩, ⟨#[60, 33, 45, 45, 97, 45, 62, 98, 45, 45, 62]⟩, ⟨#[60, 33, 45, 45, 97, 45, 45, 33]⟩, ⟨#[60, 33, 45, 45, 97, 45, 45]⟩, ⟨#[60, 33, 45, 45, 97, 45]⟩, ⟨#[60, 33, 68, 79, 67, 84, 89, 80, 69, 32, 104, 116, 109, 108, 32, 83, 89, 83, 84, 69, 77, 32, 39, 120, 39, 62, 121]⟩, ⟨#[60, 33, 100, 111, 99, 116, 121, 112, 101, 62]⟩, ⟨#[60, 33, 100, 111, 99, 116, 121, 112, 101, 120, 62]⟩, ⟨#[60, 33, 68, 111, 99, 84, 121, 112, 101, 32, 32, 65, 62]⟩, ⟨#[60, 33, 91, 67, 68, 65, 84, 65, 91, 97, 93, 93, 62, 98]⟩, ⟨#[60, 33, 91, 67, 68, 65, 84, 65, 91, 93, 93, 62]⟩, ⟨#[60, 33, 91, 99, 100, 97, 116, 97, 91, 120, 93, 93, 62]⟩, ⟨#[60, 63, 112, 104, 112, 32, 62]⟩, ⟨#[60, 47, 32, 97, 62]⟩, ⟨#[60, 47, 62, 120]⟩, ⟨#[60, 47, 33, 62]⟩, ⟨#[60, 33, 97, 62]⟩, ⟨#[60, 33, 62]⟩, ⟨#[60, 33, 45, 97, 45, 45, 62]⟩, ⟨#[60, 97, 62]⟩, ⟨#[60, 47, 97, 62]⟩]
theorem marksN_at (i : Nat) (hi : i < 24) : ∃ x, marksN[i]? = some x ∧ x.size ≤ 40 :=
  ⟨_, List.getElem?_eq_getElem (show i < marksN.length from hi), (by decide : ∀ x ∈ marksN, x.size ≤ 40) _ (List.getElem_mem _)⟩

set_option maxHeartbeats 2000000 in
set_option maxRecDepth 100000 in
theorem walk_MarkNumbers (w : World) (hL : Lax w) :
    Calls Try.prog 3 #[] w fun e w' => e = .returned (.bool true) ∧ Below w.heap.size w w' := by
  have HL := Lib.hid hL
  clear hL
  have hr := rd_lit w 9 marksN
  rw [show marksN.length = 24 from rfl] at hr
  have hb := (Below.refl w.heap.size w).alloc (Nat.le_refl _) (.cells (strs marksN).toArray 9)
  have HR := Lib.hid hr
  have HB := Lib.hid hb
  clear hr hb
  go_enter Try.func3, Try.ntmps3
  go_wp2_with fail
  obtain ⟨wa, hwa⟩ : ∃ wa, wa = w.alloc (.cells #[.string ⟨#[60, 33, 45, 45, 97, 45, 45, 33, 62, 98]⟩, .string ⟨#[60, 33, 45, 45, 62]⟩, .string ⟨#[60, 33, 45, 45, 45, 62]⟩, .string ⟨#[60, 33, 45, 45, 45, 45, 62]⟩, .string ⟨#[60, 33, 45, 45, 97, 45, 62, 98, 45, 45, 62]⟩, .string ⟨#[60, 33, 45, 45, 97, 45, 45, 33]⟩, .string ⟨#[60, 33, 45, 45, 97, 45, 45]⟩, .string ⟨#[60, 33, 45, 45, 97, 45]⟩, .string ⟨#[60, 33, 68, 79, 67, 84, 89, 80, 69, 32, 104, 116, 109, 108, 32, 83, 89, 83, 84, 69, 77, 32, 39, 120, 39, 62, 121]⟩, .string ⟨#[60, 33, 100, 111, 99, 116, 121, 112, 101, 62]⟩, .string ⟨#[60, 33, 100, 111, 99, 116, 121, 112, 101, 120, 62]⟩, .string ⟨#[60, 33, 68, 111, 99, 84, 121, 112, 101, 32, 32, 65, 62]⟩, .string ⟨#[60, 33, 91, 67, 68, 65, 84, 65, 91, 97, 93, 93, 62, 98]⟩, .string ⟨#[60, 33, 91, 67, 68, 65, 84, 65, 91, 93, 93, 62]⟩, .string ⟨#[60, 33, 91, 99, 100, 97, 116, 97, 91, 120, 93, 93, 62]⟩, .string ⟨#[60, 63, 112, 104, 112, 32, 62]⟩, .string ⟨#[60, 47, 32, 97, 62]⟩, .string ⟨#[60, 47, 62, 120]⟩, .string ⟨#[60, 47, 33, 62]⟩, .string ⟨#[60, 33, 97, 62]⟩, .string ⟨#[60, 33, 62]⟩, .string ⟨#[60, 33, 45, 97, 45, 45, 62]⟩, .string ⟨#[60, 97, 62]⟩, .string ⟨#[60, 47, 97, 62]⟩] 9) := ⟨_, rfl⟩
  rw [show w.alloc (.cells (strs marksN).toArray 9) = wa from hwa.symm] at HR HB
  rw [show w.alloc (.cells #[.string ⟨#[60, 33, 45, 45, 97, 45, 45, 33, 62, 98]⟩, .string ⟨#[60, 33, 45, 45, 62]⟩, .string ⟨#[60, 33, 45, 45, 45, 62]⟩, .string ⟨#[60, 33, 45, 45, 45, 45, 62]⟩, .string ⟨#[60, 33, 45, 45, 97, 45, 62, 98, 45, 45, 62]⟩, .string ⟨#[60, 33, 45, 45, 97, 45, 45, 33]⟩, .string ⟨#[60, 33, 45, 45, 97, 45, 45]⟩, .string ⟨#[60, 33, 45, 45, 97, 45]⟩, .string ⟨#[60, 33, 68, 79, 67, 84, 89, 80, 69, 32, 104, 116, 109, 108, 32, 83, 89, 83, 84, 69, 77, 32, 39, 120, 39, 62, 121]⟩, .string ⟨#[60, 33, 100, 111, 99, 116, 121, 112, 101, 62]⟩, .string ⟨#[60, 33, 100, 111, 99, 116, 121, 112, 101, 120, 62]⟩, .string ⟨#[60, 33, 68, 111, 99, 84, 121, 112, 101, 32, 32, 65, 62]⟩, .string ⟨#[60, 33, 91, 67, 68, 65, 84, 65, 91, 97, 93, 93, 62, 98]⟩, .string ⟨#[60, 33, 91, 67, 68, 65, 84, 65, 91, 93, 93, 62]⟩, .string ⟨#[60, 33, 91, 99, 100, 97, 116, 97, 91, 120, 93, 93, 62]⟩, .string ⟨#[60, 63, 112, 104, 112, 32, 62]⟩, .string ⟨#[60, 47, 32, 97, 62]⟩, .string ⟨#[60, 47, 62, 120]⟩, .string ⟨#[60, 47, 33, 62]⟩, .string ⟨#[60, 33, 97, 62]⟩, .string ⟨#[60, 33, 62]⟩, .string ⟨#[60, 33, 45, 97, 45, 45, 62]⟩, .string ⟨#[60, 97, 62]⟩, .string ⟨#[60, 47, 97, 62]⟩] 9) = wa from hwa.symm]
  clear hwa
  go_loopw [6] (fun iv wr => ∃ i : Nat, i ≤ 24 ∧ iv = .int .i64 i ∧ Rd wr (some ⟨w.heap.size, 0, none⟩) 24 1 (strs marksN) ∧ Below w.heap.size w wr) (fun iv _ => 24 - (intOf iv).toNat)
  case atStart => exact ⟨0, by omega, rfl, HR.out, HB.out⟩
  case round =>
    obtain ⟨i, hi, rfl, hr, hb⟩ := hrel
    have HR1 := Lib.hid hr
    have HB1 := Lib.hid hb
    clear hr hb HR HB
    by_cases hlt : i < 24
    · have d0 : decide ((i : Int) < 24) = true := decide_eq_true (by omega)
      obtain ⟨s, hx, hsz⟩ := marksN_at i hlt
      obtain ⟨ad, e, hc⟩ := HR1.out.2.2 (by decide)
      cases e
      have k1 := strs_at hc hx
      rw [add0] at k1
      have s1 : IntKind.i64.wrap ((i : Int) + 1) = (i : Int) + 1 := IntWalk.i64_in _ (by omega)
      clear hc hx
      go_wp2_with fail
      go_loopw [3] (fun kv wr2 => ∃ k : Nat, k ≤ s.size + 1 ∧ kv = .int .i64 k ∧ Below wr.heap.size wr wr2) (fun kv _ => s.size + 1 - (intOf kv).toNat)
      case atStart => exact ⟨0, by omega, rfl, Below.refl _ _⟩
      case round =>
        obtain ⟨k, hk, rfl, hb2⟩ := hrel
        have HB2 := Lib.hid hb2
        clear hb2
        by_cases hkl : k ≤ s.size
        · have d1 : decide ((k : Int) ≤ (s.size : Int)) = true := decide_eq_true (by omega)
          have hb02 := Lib.hid (below_then HB1.out HB1.out.size HB2.out)
          have hex := size_extract_le s 0 k
          have S1 := Lib.hid (fun fo w' (h : Below w.heap.size w w') => msame_any (s.extract 0 k) 0 fo w' (by omega) (HL.out.below h))
          have S2 := Lib.hid (fun fo w' (h : Below w.heap.size w w') => msame_any (⟨#[120]⟩ ++ s.extract 0 k) 1 fo w' (by rw [ByteArray.size_append]; show 1 + _ ≤ 65536; omega) (HL.out.below h))
          have hsum : (⟨#[120]⟩ : ByteArray).size + (s.extract 0 k).size ≤ 9223372036854775807 := by show 1 + _ ≤ _; omega
          have s2 : IntKind.i64.wrap ((k : Int) + 1) = (k : Int) + 1 := IntWalk.i64_in _ (by omega)
          go_wp2_with fail
          refine (S1.out _ _ hb02.out).mono ?_
          rintro e w1 ⟨rfl, b1⟩
          have HB3 := Lib.hid (below_then hb02.out hb02.out.size b1)
          have HB4 := Lib.hid (below_then HB2.out HB2.out.size b1)
          clear b1
          go_wp2_with fail
          refine (S1.out _ _ HB3.out).mono ?_
          rintro e w2 ⟨rfl, b1⟩
          have HB5 := Lib.hid (below_then HB3.out HB3.out.size b1)
          have HB6 := Lib.hid (below_then HB4.out HB4.out.size b1)
          clear b1
          go_wp2_with fail
          refine (S2.out _ _ HB5.out).mono ?_
          rintro e w3 ⟨rfl, b1⟩
          have HB7 := Lib.hid (below_then HB6.out HB6.out.size b1)
          clear b1
          go_wp2_with fail
          exact ⟨⟨k + 1, by omega, by go_num, HB7.out⟩, by simp [intOf]; omega⟩
        · have d1 : decide ((k : Int) ≤ (s.size : Int)) = false := decide_eq_false (by omega)
          go_wp2_with fail
          exact ⟨⟨i + 1, by omega, by go_num, HR1.out.keep HB2.out, below_then HB1.out HB1.out.size HB2.out⟩, by simp [intOf]; omega⟩
    · have d0 : decide ((i : Int) < 24) = false := decide_eq_false (by omega)
      have S1 := Lib.hid (fun (at_ : Int) w' (h : Below w.heap.size w w') => msame_any ⟨#[60, 33, 97, 62]⟩ at_ true w' (by decide) (HL.out.below h))
      go_wp2_with fail
      refine (S1.out _ _ HB1.out).mono ?_
      rintro e w1 ⟨rfl, b1⟩
      have HB3 := Lib.hid (below_then HB1.out HB1.out.size b1)
      clear b1
      go_wp2_with fail
      refine (S1.out _ _ HB3.out).mono ?_
      rintro e w2 ⟨rfl, b1⟩
      have HB4 := Lib.hid (below_then HB3.out HB3.out.size b1)
      clear b1
      go_wp2_with fail
      refine (mknown_any _ (HL.out.below HB4.out)).mono ?_
      rintro e w3 ⟨rfl, b1⟩
      have HB5 := Lib.hid (below_then HB4.out HB4.out.size b1)
      clear b1
      go_wp2_with fail
      go_ret
      exact ⟨rfl, HB5.out⟩
end Go.Proofs.Ytjghkiphfpeocaa
