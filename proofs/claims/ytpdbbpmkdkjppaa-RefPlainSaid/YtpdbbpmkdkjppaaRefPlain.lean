/- RefPlain, walked. -/
import Derived.Test.YtpdbbpmkdkjppaaRefSame
import Derived.Test.YtpdbbpmkdkjppaaPlainL
namespace Go.Proofs.Ytpdbbpmkdkjppaa
open Go.RowKit

set_option maxHeartbeats 4000000 in
set_option maxRecDepth 100000 in
theorem walk_RefPlain (a0 : ByteArray) (attr : Bool) (w0 : a0.size ≤ maxLen) (w : World) (hL : Lax w) :
    Calls Try.prog 5 #[.string a0, .bool attr] w fun e w' => e = .returned (.bool true) ∧ Below w.heap.size w w' := by
  unfold maxLen at w0
  have hs := headB_le a0 100
  have HL := Lib.hid hL
  clear hL
  go_enter Try.func5, Try.ntmps5
  go_wp2_with fail
  refine (head_any _ _ _ (by omega) (by omega)).mono ?_
  rintro e w1 ⟨rfl, rfl⟩
  rw [show (100 : Int).toNat = 100 from rfl]
  generalize headB a0 100 = s at *
  have hL : (B s).length = s.size := (size_B s).symm
  have HLL := Lib.hid hL
  clear hL
  go_wp2_with fail
  go_loop [5, 6, 7] (fun bv wv iv => ∃ k : Nat, k ≤ s.size ∧ iv = .int .i64 k ∧ bv = .string (S (bareL ((B s).take k))) ∧ wv = .string (S (escL ((B s).take k)))) (fun _ _ iv => s.size - (intOf iv).toNat)
  case atStart => exact ⟨0, Nat.zero_le _, rfl, rfl, rfl⟩
  case round =>
    obtain ⟨k, hk, rfl, rfl, rfl⟩ := hrel
    by_cases hlt : k < s.size
    · have hat := B_at s k hlt
      have hz1 : (S (bareL ((B s).take k))).size ≤ k := by
        rw [size_S]; have := bare_len ((B s).take k); have := List.length_take_le k (B s); omega
      have hz2 : (S (escL ((B s).take k))).size ≤ 5 * k := by
        rw [size_S]; have := esc_len ((B s).take k); have := List.length_take_le k (B s); omega
      have hone := piece_one s k hlt
      have hext : (s.extract k (k + 1)).size = 1 := by rw [hone]; rfl
      have hb := flat_snoc bareB (B s) k _ hat
      have he := flat_snoc escB (B s) k _ hat
      have s1 : IntKind.i64.wrap ((k : Int) + 1) = (k : Int) + 1 := IntWalk.i64_in _ (by omega)
      by_cases h38 : s[k] = 38
      · have d0 : ((s[k].toNat : Int) != 38) = false := by rw [h38]; rfl
        have hsum : (S (escL ((B s).take k))).size + (⟨#[38, 97, 109, 112, 59]⟩ : ByteArray).size ≤ 9223372036854775807 := by
          show _ + 5 ≤ _; omega
        have HB : Hid (S (bareL ((B s).take k)) = S (bareL ((B s).take (k + 1)))) := by
          show _ = _
          unfold bareL
          rw [hb, h38]; unfold bareB; simp
        have HE : Hid (S (escL ((B s).take k)) ++ ⟨#[38, 97, 109, 112, 59]⟩ = S (escL ((B s).take (k + 1)))) := by
          show _ = _
          unfold escL
          rw [he, h38, ← S_app]; rfl
        clear hat hz1 hz2 hone hext hb he h38
        go_wp2_with fail
        go_round
        case rel => exact ⟨k + 1, by omega, by go_num, by rw [HB.out], by rw [HE.out]⟩
        case measure => simp [intOf]; omega
      · have d0 : ((s[k].toNat : Int) != 38) = true := by
          rw [bne_iff_ne]; intro e; exact h38 (UInt8.toNat_inj.1 (by show _ = 38; omega))
        have hsum : (S (escL ((B s).take k))).size + (s.extract k (k + 1)).size ≤ 9223372036854775807 := by rw [hext]; omega
        have hsum2 : (S (bareL ((B s).take k))).size + (s.extract k (k + 1)).size ≤ 9223372036854775807 := by rw [hext]; omega
        have HB : Hid (S (bareL ((B s).take k)) ++ s.extract k (k + 1) = S (bareL ((B s).take (k + 1)))) := by
          show _ = _
          unfold bareL
          rw [hb, hone, S_app]; unfold bareB; rw [if_neg h38]
        have HE : Hid (S (escL ((B s).take k)) ++ s.extract k (k + 1) = S (escL ((B s).take (k + 1)))) := by
          show _ = _
          unfold escL
          rw [he, hone, S_app, show escB s[k] = [s[k]] from if_neg h38]
        clear hat hz1 hz2 hone hext hb he h38
        go_wp2_with fail
        go_round
        case rel => exact ⟨k + 1, by omega, by go_num, by rw [HB.out], by rw [HE.out]⟩
        case measure => simp [intOf]; omega
    · obtain rfl : k = s.size := by omega
      rw [List.take_of_length_le (show (B s).length ≤ s.size by rw [HLL.out]; exact Nat.le_refl _)]
      have hz1 : (S (bareL (B s))).size ≤ 100 := by
        rw [size_S]; have := bare_len (B s); rw [HLL.out] at this; omega
      have hz2 : (S (escL (B s))).size ≤ 500 := by
        rw [size_S]; have := esc_len (B s); rw [HLL.out] at this; omega
      have hA1 := all_any (S (bareL (B s))) attr w (by omega) HL.out
      rw [B_S, all_bare] at hA1
      have hA2 := fun W hW => all_any (S (escL (B s))) attr W (by omega) hW
      rw [B_S, all_esc, S_B] at hA2
      have HA1 := Lib.hid hA1
      have HA2 := Lib.hid hA2
      clear hA1 hA2
      generalize S (bareL (B s)) = bb at *
      generalize S (escL (B s)) = ee at *
      have t1 : (bb.toList != bb.toList) = false := by simp
      have t2 : (s.toList != s.toList) = false := by simp
      go_wp2_with fail
      refine HA1.out.mono ?_
      rintro e w1 ⟨rfl, b1⟩
      have HB1 := Lib.hid b1
      clear b1
      go_wp2_with fail
      refine (HA2.out _ (HL.out.below HB1.out)).mono ?_
      rintro e w2 ⟨rfl, b2⟩
      have HB2 := Lib.hid (below_both HB1.out b2)
      clear b2
      go_wp2_with fail
      go_loopw [8] (fun iv wr => ∃ k : Nat, k ≤ s.size ∧ iv = .int .i64 k ∧ Below w.heap.size w wr) (fun iv _ => s.size - (intOf iv).toNat)
      case atStart => exact ⟨0, Nat.zero_le _, rfl, HB2.out⟩
      case round =>
        obtain ⟨k, hk, rfl, hB⟩ := hrel
        have HB := Lib.hid hB
        clear hB
        by_cases hlt : k < s.size
        · have s1 : IntKind.i64.wrap ((k : Int) + 1) = (k : Int) + 1 := IntWalk.i64_in _ (by omega)
          by_cases h38 : s[k] = 38
          · have d0 : ((s[k].toNat : Int) == 38) = true := by rw [h38]; rfl
            have hrr := readR_at attr (B s) k (by rw [head_at hlt, h38])
            have hfc := refS_facts attr ((B s).drop k) (by rw [List.length_drop, HLL.out]; omega)
            rw [List.length_drop, HLL.out] at hfc
            have HRD := read_any s wr attr (by omega) (k : Int)
            rw [hrr] at HRD
            generalize refS attr ((B s).drop k) = r at *
            obtain ⟨rt, rn⟩ := r
            simp only at hfc HRD
            unfold valR at HRD
            have h1 : k < k + rn := by omega
            have h2 : k + rn ≤ s.size := by omega
            have e1 : decide (((k + rn : Nat) : Int) ≤ (k : Int)) = false := decide_eq_false (by omega)
            have e2 : decide ((s.size : Int) < ((k + rn : Nat) : Int)) = false := decide_eq_false (by omega)
            have e3 : ((S rt).toList == []) = false := by
              rw [toList_S, beq_eq_false_iff_ne]; intro e; rw [e] at hfc; simp at hfc
            have e4 : (S rt).toList.isEmpty = false := by
              rw [toList_S]; cases rt with
              | nil => simp at hfc
              | cons a b => rfl
            have HRR := Lib.hid HRD
            clear hrr hfc HRD h38
            generalize k + rn = q at *
            go_wp2_with fail
            refine HRR.out.mono ?_
            rintro e w3 ⟨rfl, b3⟩
            have HB3 := Lib.hid (below_then HB.out HB.out.size b3)
            clear b3
            go_wp2_with fail
            exact ⟨⟨k + 1, by omega, by go_num, HB3.out⟩, by simp [intOf]; omega⟩
          · have d0 : ((s[k].toNat : Int) == 38) = false := by
              rw [beq_eq_false_iff_ne]; intro e; exact h38 (UInt8.toNat_inj.1 (by show _ = 38; omega))
            go_wp2_with fail
            exact ⟨⟨k + 1, by omega, by go_num, HB.out⟩, by simp [intOf]; omega⟩
        · go_wp2_with fail
          refine (refknown_any _ (HL.out.below HB.out)).mono ?_
          rintro e w4 ⟨rfl, b4⟩
          have HB4 := Lib.hid (below_then HB.out HB.out.size b4)
          clear b4
          go_wp2_with fail
          go_ret
          exact ⟨rfl, HB4.out⟩
end Go.Proofs.Ytpdbbpmkdkjppaa
