/- TagAttrs, walked. -/
import Derived.Test.YtmlaaonmofgidaaTagSame
import Derived.Test.YtmlaaonmofgidaaArgInts
import Derived.Test.YtmlaaonmofgidaaArgRows
namespace Go.Proofs.Ytmlaaonmofgidaa
open Go.RowKit

set_option maxHeartbeats 8000000 in
set_option maxRecDepth 100000 in
theorem walk_TagAttrs (a0 : ByteArray) (A : Option Addr) (c : Nat) (l : List Int) (at_ : Int) (w0 : a0.size ≤ maxLen) (w : World) (hL : Lax w) (hr : Rd w A l.length 1 (l.flatMap enc_int)) (_hlc : l.length ≤ c) (_hcm : c ≤ maxLen) :
    Calls Try.prog 5 #[.string a0, .slice A l.length c, .int .i64 at_] w fun e w' => e = .returned (.bool true) ∧ Below w.heap.size w w' := by
  unfold maxLen at w0
  have hs := headB_le a0 20
  have HR := Lib.hid hr
  have HL := Lib.hid hL
  clear hr hL
  go_enter Try.func5, Try.ntmps5
  go_wp2_with fail
  refine (head_any _ _ _ (by omega) (by omega)).mono ?_
  rintro e w1 ⟨rfl, rfl⟩
  rw [show (20 : Int).toNat = 20 from rfl]
  generalize headB a0 20 = s at *
  go_wp2_with fail
  go_loopw [7, 8] (fun xv iv wr => ∃ (j : Nat) (x : ByteArray), j ≤ l.length ∧ j ≤ 15 ∧ x.size ≤ 60 + 40 * j ∧ xv = .string x ∧ iv = .int .i64 j ∧ Below w.heap.size w wr) (fun _ iv _ => l.length - (intOf iv).toNat)
  case atStart => exact ⟨0, s, Nat.zero_le _, by omega, by omega, rfl, rfl, Below.refl _ _⟩
  case round =>
    obtain ⟨j, x, hj, hj20, hx, rfl, rfl, hb⟩ := hrel
    have HB := Lib.hid hb
    clear hb
    by_cases hlt : j < l.length ∧ j < 15
    · obtain ⟨hlt, h20⟩ := hlt
      have d0 : decide ((j : Int) < (l.length : Int)) = true := decide_eq_true (by omega)
      have d1 : decide ((j : Int) < 15) = true := decide_eq_true (by omega)
      obtain ⟨y, hy⟩ : ∃ y, l[j]? = some y := ⟨_, List.getElem?_eq_getElem hlt⟩
      obtain ⟨a1, rfl, hc1⟩ := (HR.out.keep HB.out).2.2 (by omega)
      have k1 := hc1 j _ (by have := row_at encOk_int l j 0 y _ hy rfl; simpa using this)
      have s1 : IntKind.i64.wrap ((j : Int) + 1) = (j : Int) + 1 := IntWalk.i64_in _ (by omega)
      clear hc1 hy
      go_wp2_with fail
      refine (tagpiece_any y _).mono ?_
      rintro e w2 ⟨z, rfl, hz, b2⟩
      have HB2 := Lib.hid (below_then HB.out HB.out.size b2)
      have hsum : x.size + z.size ≤ 9223372036854775807 := by omega
      clear b2
      go_wp2_with fail
      exact ⟨⟨j + 1, x ++ z, by omega, by omega, by rw [ByteArray.size_append]; omega, rfl, by go_num, HB2.out⟩, by simp [intOf]; omega⟩
    · have hcase : (decide ((j : Int) < (l.length : Int)) = false ∧ ¬ j < l.length) ∨ (decide ((j : Int) < (l.length : Int)) = true ∧ decide ((j : Int) < 15) = false ∧ j < l.length ∧ ¬ j < 15) := by
        by_cases h1 : j < l.length
        · exact .inr ⟨decide_eq_true (by omega), decide_eq_false (by omega), h1, by omega⟩
        · exact .inl ⟨decide_eq_false (by omega), h1⟩
      have hx2 : x.size ≤ 860 := by omega
      have hw := withinI_bd at_ 0 (x.size : Int) (by omega)
      have HWI := Lib.hid (fun w => bwithin_any at_ 0 (x.size : Int) w (by omega) (by omega) (by omega))
      generalize withinI at_ 0 (x.size : Int) = k0 at *
      obtain ⟨k, rfl⟩ : ∃ k : Nat, k0 = (k : Int) := ⟨k0.toNat, by omega⟩
      have hk : k ≤ x.size := by omega
      clear hlt hw hx hj hj20
      by_cases hsp : k = x.size
      · have e0 : ((k : Int) == (x.size : Int)) = true := by rw [hsp]; exact beq_self_eq_true _
        clear hsp
        rcases hcase with ⟨d0, m0⟩ | ⟨d0, d1, m0, m1⟩
        all_goals
          go_wp2_with fail
          refine (HWI.out _).mono ?_
          rintro e w5 ⟨rfl, rfl⟩
          go_wp2_with fail
          refine (tagknown_any _ (HL.out.below HB.out)).mono ?_
          rintro e w6 ⟨rfl, b6⟩
          have HB6 := Lib.hid (below_then HB.out HB.out.size b6)
          clear b6
          go_wp2_with fail
          go_ret
          exact ⟨rfl, HB6.out⟩
      · have hklt : k < x.size := by omega
        have e0 : ((k : Int) == (x.size : Int)) = false := by rw [beq_eq_false_iff_ne]; omega
        have HA := Lib.hid (attr_any x k · (by omega) · hklt)
        have HRA := Lib.hid (fun w => rattr_any x k w (by omega) hklt)
        generalize attrT (B x) k = r at *
        obtain ⟨a, p, h⟩ := r
        unfold arV val_at at HA HRA
        simp only at HA HRA
        obtain ⟨an, av⟩ := a
        simp only at HA HRA
        have t1 : (an.toList == an.toList) = true := beq_self_eq_true _
        have t4 : (av.toList == av.toList) = true := beq_self_eq_true _
        have t2 : ((p : Int) == (p : Int)) = true := beq_self_eq_true _
        have t3 : ((h : Int) == (h : Int)) = true := beq_self_eq_true _
        clear hsp
        have HBW := HB
        rcases hcase with ⟨d0, m0⟩ | ⟨d0, d1, m0, m1⟩
        all_goals
          go_wp2_with fail
          refine (HWI.out _).mono ?_
          rintro e w5 ⟨rfl, rfl⟩
          go_wp2_with (first
            | (go_at_call 10
               refine (tagknown_any _ (HL.out.below HBW.out)).mono ?_
               rintro e w6 ⟨rfl, b6⟩
               have HBW := Lib.hid (below_then HBW.out HBW.out.size b6)
               clear b6)
            | (go_at_call 14
               refine (HA.out _ (HL.out.below HBW.out)).mono ?_
               rintro e w3 ⟨rfl, b3⟩
               have hb3 := (below_then HBW.out HBW.out.size b3)
               have HBW := Lib.hid (hb3.alloc hb3.size (.cells #[.string an, .string av] 31))
               have HC := Lib.hid (Blk.new w3 31 #[.string an, .string av] (0, 0))
               clear b3 hb3)
            | (go_at_call 15
               refine (HRA.out _).mono ?_
               rintro e w4 ⟨rfl, b4⟩
               have hb4 := (below_then HBW.out HBW.out.size b4)
               have HBW := Lib.hid (hb4.alloc hb4.size (.cells #[.string an, .string av] 31))
               have hc4 := HC.out.keep b4
               obtain ⟨y0, y1, _, _⟩ := cells2 hc4
               have hlt4 := hc4.lt
               clear b4 hb4 hc4))
          all_goals
            go_ret
            exact ⟨rfl, HBW.out⟩
end Go.Proofs.Ytmlaaonmofgidaa
