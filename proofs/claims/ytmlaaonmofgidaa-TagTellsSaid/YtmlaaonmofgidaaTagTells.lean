/- TagTells, walked. -/
import Derived.Test.YtmlaaonmofgidaaTagSame
import Derived.Test.YtmlaaonmofgidaaArgInts
import Derived.Test.YtmlaaonmofgidaaArgRows
namespace Go.Proofs.Ytmlaaonmofgidaa
open Go.RowKit

set_option maxHeartbeats 8000000 in
set_option maxRecDepth 100000 in
theorem walk_TagTells (a0 : ByteArray) (A : Option Addr) (c : Nat) (l : List Int) (at_ : Int) (fo : Bool) (w0 : a0.size ≤ maxLen) (w : World) (hL : Lax w) (hr : Rd w A l.length 1 (l.flatMap enc_int)) (_hlc : l.length ≤ c) (_hcm : c ≤ maxLen) :
    Calls Try.prog 4 #[.string a0, .slice A l.length c, .int .i64 at_, .bool fo] w fun e w' => e = .returned (.bool true) ∧ Below w.heap.size w w' := by
  unfold maxLen at w0
  have hs := headB_le a0 60
  have HR := Lib.hid hr
  have HL := Lib.hid hL
  clear hr hL
  cases fo
  all_goals
    go_enter Try.func4, Try.ntmps4
    go_wp2_with fail
    refine (head_any _ _ _ (by omega) (by omega)).mono ?_
    rintro e w1 ⟨rfl, rfl⟩
    rw [show (60 : Int).toNat = 60 from rfl]
    generalize headB a0 60 = s at *
    go_wp2_with fail
    go_loopw [9, 10] (fun xv iv wr => ∃ (j : Nat) (x : ByteArray), j ≤ l.length ∧ j ≤ 20 ∧ x.size ≤ 60 + 40 * j ∧ xv = .string x ∧ iv = .int .i64 j ∧ Below w.heap.size w wr) (fun _ iv _ => l.length - (intOf iv).toNat)
    case atStart => exact ⟨0, _, Nat.zero_le _, by omega, (by decide), rfl, rfl, Below.refl _ _⟩
    case round =>
      obtain ⟨j, x, hj, hj20, hx, rfl, rfl, hb⟩ := hrel
      have HB := Lib.hid hb
      clear hb
      by_cases hlt : j < l.length ∧ j < 20
      · obtain ⟨hlt, h20⟩ := hlt
        have d0 : decide ((j : Int) < (l.length : Int)) = true := decide_eq_true (by omega)
        have d1 : decide ((j : Int) < 20) = true := decide_eq_true (by omega)
        obtain ⟨y, hy⟩ : ∃ y, l[j]? = some y := ⟨_, List.getElem?_eq_getElem hlt⟩
        obtain ⟨a1, rfl, hc1⟩ := (HR.out.keep HB.out).2.2 (by omega)
        have k1 := hc1 j _ (by have := row_at encOk_int l j 0 y _ hy rfl; simpa using this)
        have s1 : IntKind.i64.wrap ((j : Int) + 1) = (j : Int) + 1 := IntWalk.i64_in _ (by omega)
        clear hc1 hy
        go_wp2_with fail
        refine (tagpiece_any y _).mono ?_
        rintro e w2 ⟨z, rfl, hz, b2⟩
        have HB2 := Lib.hid (below_then HB.out HB.out.size b2)
        have hsum : x.size + z.size ≤ 9223372036854775807 := by omega
        clear b2
        go_wp2_with fail
        exact ⟨⟨j + 1, x ++ z, by omega, by omega, by rw [ByteArray.size_append]; omega, rfl, by go_num, HB2.out⟩, by simp [intOf]; omega⟩
      · have hcase : (decide ((j : Int) < (l.length : Int)) = false ∧ ¬ j < l.length) ∨ (decide ((j : Int) < (l.length : Int)) = true ∧ decide ((j : Int) < 20) = false ∧ j < l.length ∧ ¬ j < 20) := by
          by_cases h1 : j < l.length
          · exact .inr ⟨decide_eq_true (by omega), decide_eq_false (by omega), h1, by omega⟩
          · exact .inl ⟨decide_eq_false (by omega), h1⟩
        have hx2 : x.size ≤ 860 := by omega
        have hw := withinI_bd at_ 0 (x.size : Int) (by omega)
        have S1 := Lib.hid (fun w' (h : Below w.heap.size w w') => tagsame_any s at_ w' (by omega) (HL.out.below h))
        have S2 := Lib.hid (fun w' (h : Below w.heap.size w w') => tagsame_any (⟨#[60]⟩ ++ s) 0 w' (by rw [ByteArray.size_append]; show 1 + s.size ≤ 65536; omega) (HL.out.below h))
        have S3 := Lib.hid (fun w' (h : Below w.heap.size w w') => tagsame_any x 0 w' (by omega) (HL.out.below h))
        have S4 := Lib.hid (fun w' (h : Below w.heap.size w w') => tagsame_any (x ++ ⟨#[62]⟩) 0 w' (by rw [ByteArray.size_append]; show x.size + 1 ≤ 65536; omega) (HL.out.below h))
        have S5 := Lib.hid (fun (at_ : Int) w' (h : Below w.heap.size w w') => tagsame_any (x ++ s) at_ w' (by rw [ByteArray.size_append]; omega) (HL.out.below h))
        have p1 : (⟨#[60]⟩ : ByteArray).size + s.size ≤ 9223372036854775807 := by show 1 + s.size ≤ _; omega
        have p2 : x.size + (⟨#[62]⟩ : ByteArray).size ≤ 9223372036854775807 := by show x.size + 1 ≤ _; omega
        have p3 : x.size + s.size ≤ 9223372036854775807 := by omega
        have HW := Lib.hid (fun w => bwithin_any at_ 0 (x.size : Int) w (by omega) (by omega) (by omega))
        clear hlt hw
        rcases hcase with ⟨d0, m0⟩ | ⟨d0, d1, m0, m1⟩
        all_goals
          go_wp2_with fail
          refine (S1.out _ HB.out).mono ?_
          rintro e w1 ⟨rfl, b1⟩
          have HB1 := Lib.hid (below_then HB.out HB.out.size b1)
          clear b1
          go_wp2_with fail
          refine (S2.out _ HB1.out).mono ?_
          rintro e w2 ⟨rfl, b2⟩
          have HB2 := Lib.hid (below_then HB1.out HB1.out.size b2)
          clear b2
          go_wp2_with fail
          refine (S3.out _ HB2.out).mono ?_
          rintro e w3 ⟨rfl, b3⟩
          have HB3 := Lib.hid (below_then HB2.out HB2.out.size b3)
          clear b3
          go_wp2_with fail
          refine (S4.out _ HB3.out).mono ?_
          rintro e w4 ⟨rfl, b4⟩
          have HB4 := Lib.hid (below_then HB3.out HB3.out.size b4)
          clear b4
          go_wp2_with fail
          refine (HW.out _).mono ?_
          rintro e w5 ⟨rfl, rfl⟩
          go_wp2_with fail
          refine (S5.out _ _ HB4.out).mono ?_
          rintro e w5 ⟨rfl, b5⟩
          have HB5 := Lib.hid (below_then HB4.out HB4.out.size b5)
          clear b5
          go_wp2_with fail
          refine (tagknown_any _ (HL.out.below HB5.out)).mono ?_
          rintro e w6 ⟨rfl, b6⟩
          have HB6 := Lib.hid (below_then HB5.out HB5.out.size b6)
          clear b6
          go_wp2_with fail
          go_ret
          exact ⟨rfl, HB6.out⟩
end Go.Proofs.Ytmlaaonmofgidaa
