/- TagValues, walked. -/
import Derived.Test.YtmlaaonmofgidaaTagSame
import Derived.Test.YtmlaaonmofgidaaTagValL
namespace Go.Proofs.Ytmlaaonmofgidaa
open Go.RowKit

theorem esc_snoc (l : List UInt8) (k : Nat) (c : UInt8) (h : l[k]? = some c) : escW (l.take (k + 1)) = escW (l.take k) ++ escC c := by
  unfold escW
  rw [List.take_add_one, h, List.flatMap_append]
  simp
theorem add_zero_at (a : Addr) : a.add 0 = a := by simp [Addr.add]
theorem headB_min (s : ByteArray) : (headB s 30).size ≤ s.size := by
  unfold headB
  split
  · exact size_extract_le _ _ _
  · exact Nat.le_refl _

set_option maxHeartbeats 8000000 in
set_option maxRecDepth 100000 in
theorem walk_TagValues (s : ByteArray) (fo : Bool) (w0 : s.size ≤ maxLen) (w : World) (hL : Lax w) :
    Calls Try.prog 6 #[.string s, .bool fo] w fun e w' => e = .returned (.bool true) ∧ Below w.heap.size w w' := by
  unfold maxLen at w0
  have HL := Lib.hid hL
  have HH := Lib.hid (fun w => head_any s 30 w (by omega) (by omega))
  rw [show (30 : Int).toNat = 30 from rfl] at HH
  have hm1 := headB_le s 30
  have hm2 := headB_min s
  generalize headB s 30 = hd at *
  have hlB : (B s).length = s.size := (size_B s).symm
  have HLB := Lib.hid hlB
  obtain ⟨q, hq, HQ⟩ : ∃ q : UInt8, (q = 34 ∨ q = 39) ∧ Hid (q = cond fo 39 34) := ⟨cond fo 39 34, by cases fo <;> simp, rfl⟩
  clear hL hlB
  go_enter Try.func6, Try.ntmps6
  go_wp2_with fail
  go_loop [5, 6, 7] (fun vv wv iv => ∃ k : Nat, k ≤ hd.size ∧ iv = .int .i64 k ∧ vv = .string (S ((B s).take k)) ∧ wv = .string (S (escW ((B s).take k)))) (fun _ _ iv => hd.size - (intOf iv).toNat)
  case atStart => exact ⟨0, Nat.zero_le _, rfl, rfl, rfl⟩
  case round =>
    obtain ⟨k, hk, rfl, rfl, rfl⟩ := hrel
    by_cases hlt : k < hd.size
    · have hks : k < s.size := by omega
      have d0 : decide ((k : Int) < (hd.size : Int)) = true := decide_eq_true (by omega)
      have hat := B_at s k hks
      have hz1 : (S ((B s).take k)).size ≤ k := by rw [size_S]; exact List.length_take_le _ _
      have hz2 : (S (escW ((B s).take k))).size ≤ 6 * k := by
        rw [size_S]; have := escW_len ((B s).take k); have := List.length_take_le k (B s); omega
      have hone := piece_one s k hks
      have hext : (s.extract k (k + 1)).size = 1 := by rw [hone]; rfl
      have he := esc_snoc (B s) k _ hat
      have s1 : IntKind.i64.wrap ((k : Int) + 1) = (k : Int) + 1 := IntWalk.i64_in _ (by omega)
      have hsum : (S ((B s).take k)).size + (s.extract k (k + 1)).size ≤ 9223372036854775807 := by rw [hext]; omega
      have HV : Hid (S ((B s).take k) ++ s.extract k (k + 1) = S ((B s).take (k + 1))) := by
        show _ = _
        rw [hone, S_app, List.take_add_one, hat]; rfl
      by_cases h38 : s[k] = 38
      · have e1 : ((s[k].toNat : Int) == 38) = true := by rw [h38]; rfl
        have hs2 : (S (escW ((B s).take k))).size + (⟨#[38, 97, 109, 112, 59]⟩ : ByteArray).size ≤ 9223372036854775807 := by show _ + 5 ≤ _; omega
        have HE : Hid (S (escW ((B s).take k)) ++ ⟨#[38, 97, 109, 112, 59]⟩ = S (escW ((B s).take (k + 1)))) := by
          show _ = _; rw [he, h38, ← S_app]; rfl
        clear hat hz1 hz2 hone hext he h38
        go_wp2_with fail
        refine (HH.out _).mono ?_
        rintro e w' ⟨rfl, rfl⟩
        go_wp2_with fail
        go_round
        case rel => exact ⟨k + 1, by omega, by go_num, by rw [HV.out], by rw [HE.out]⟩
        case measure => simp [intOf]; omega
      · have e1 : ((s[k].toNat : Int) == 38) = false := byte_ne (n := 38) (by decide) h38
        by_cases h34 : s[k] = 34
        · have e2 : ((s[k].toNat : Int) == 34) = true := by rw [h34]; rfl
          have hs2 : (S (escW ((B s).take k))).size + (⟨#[38, 113, 117, 111, 116, 59]⟩ : ByteArray).size ≤ 9223372036854775807 := by show _ + 6 ≤ _; omega
          have HE : Hid (S (escW ((B s).take k)) ++ ⟨#[38, 113, 117, 111, 116, 59]⟩ = S (escW ((B s).take (k + 1)))) := by
            show _ = _; rw [he, h34, ← S_app]; rfl
          clear hat hz1 hz2 hone hext he h38 h34
          go_wp2_with fail
          refine (HH.out _).mono ?_
          rintro e w' ⟨rfl, rfl⟩
          go_wp2_with fail
          go_round
          case rel => exact ⟨k + 1, by omega, by go_num, by rw [HV.out], by rw [HE.out]⟩
          case measure => simp [intOf]; omega
        · have e2 : ((s[k].toNat : Int) == 34) = false := byte_ne (n := 34) (by decide) h34
          by_cases h39 : s[k] = 39
          · have e3 : ((s[k].toNat : Int) == 39) = true := by rw [h39]; rfl
            have hs2 : (S (escW ((B s).take k))).size + (⟨#[38, 35, 51, 57, 59]⟩ : ByteArray).size ≤ 9223372036854775807 := by show _ + 5 ≤ _; omega
            have HE : Hid (S (escW ((B s).take k)) ++ ⟨#[38, 35, 51, 57, 59]⟩ = S (escW ((B s).take (k + 1)))) := by
              show _ = _; rw [he, h39, ← S_app]; rfl
            clear hat hz1 hz2 hone hext he h38 h34 h39
            go_wp2_with fail
            refine (HH.out _).mono ?_
            rintro e w' ⟨rfl, rfl⟩
            go_wp2_with fail
            go_round
            case rel => exact ⟨k + 1, by omega, by go_num, by rw [HV.out], by rw [HE.out]⟩
            case measure => simp [intOf]; omega
          · have e3 : ((s[k].toNat : Int) == 39) = false := byte_ne (n := 39) (by decide) h39
            have hs2 : (S (escW ((B s).take k))).size + (s.extract k (k + 1)).size ≤ 9223372036854775807 := by rw [hext]; omega
            have HE : Hid (S (escW ((B s).take k)) ++ s.extract k (k + 1) = S (escW ((B s).take (k + 1)))) := by
              show _ = _
              rw [he, hone, S_app, show escC s[k] = [s[k]] by unfold escC; rw [if_neg h38, if_neg h34, if_neg h39]]
            clear hat hz1 hz2 hone hext he h38 h34 h39
            go_wp2_with fail
            refine (HH.out _).mono ?_
            rintro e w' ⟨rfl, rfl⟩
            go_wp2_with fail
            go_round
            case rel => exact ⟨k + 1, by omega, by go_num, by rw [HV.out], by rw [HE.out]⟩
            case measure => simp [intOf]; omega
    · have d0 : decide ((k : Int) < (hd.size : Int)) = false := decide_eq_false (by omega)
      have hk30 : k ≤ 30 := by omega
      have hlen : ((B s).take k).length ≤ 30 := by have := List.length_take_le k (B s); omega
      generalize (B s).take k = l at *
      have hz2 : (S (escW l)).size ≤ 180 := by rw [size_S]; have := escW_len l; omega
      have hX : B (⟨#[60, 97, 32, 105, 100, 61]⟩ ++ ⟨#[q]⟩ ++ S (escW l) ++ ⟨#[q]⟩ ++ ⟨#[32, 73, 68, 61, 111, 116, 104, 101, 114, 32, 98, 61, 99, 62]⟩) = wholeT q (escW l) := by
        unfold wholeT tailT
        simp only [B, ByteArray.data_append, Array.toList_append, S]
        rfl
      have z1 : (⟨#[60, 97, 32, 105, 100, 61]⟩ ++ ⟨#[q]⟩ : ByteArray).size = 7 := rfl
      have z2 : (⟨#[60, 97, 32, 105, 100, 61]⟩ ++ ⟨#[q]⟩ ++ S (escW l) : ByteArray).size = 7 + (S (escW l)).size := by rw [ByteArray.size_append, z1]
      have z3 : (⟨#[60, 97, 32, 105, 100, 61]⟩ ++ ⟨#[q]⟩ ++ S (escW l) ++ ⟨#[q]⟩ : ByteArray).size = 7 + (S (escW l)).size + 1 := by rw [ByteArray.size_append, z2]; rfl
      have z4 : (⟨#[60, 97, 32, 105, 100, 61]⟩ ++ ⟨#[q]⟩ ++ S (escW l) ++ ⟨#[q]⟩ ++ ⟨#[32, 73, 68, 61, 111, 116, 104, 101, 114, 32, 98, 61, 99, 62]⟩ : ByteArray).size = 7 + (S (escW l)).size + 1 + 14 := by rw [ByteArray.size_append, z3]; rfl
      have hRD := fun w' (h : Below w.heap.size w w') => tread_any (⟨#[60, 97, 32, 105, 100, 61]⟩ ++ ⟨#[q]⟩ ++ S (escW l) ++ ⟨#[q]⟩ ++ ⟨#[32, 73, 68, 61, 111, 116, 104, 101, 114, 32, 98, 61, 99, 62]⟩) w' (by rw [z4]; omega) 0 (HL.out.below h)
      obtain ⟨t, ht, hta, hts⟩ := read_values hq l
      rw [hX, ht, ← hX, ← size_B] at hRD
      obtain ⟨kd, nm, al, sf⟩ := t
      simp only at hta hts
      subst hta hts
      have p1 : (⟨#[60, 97, 32, 105, 100, 61]⟩ : ByteArray).size + (⟨#[q]⟩ : ByteArray).size ≤ 9223372036854775807 := by show 6 + 1 ≤ _; omega
      have p2 : (⟨#[60, 97, 32, 105, 100, 61]⟩ ++ ⟨#[q]⟩ : ByteArray).size + (S (escW l)).size ≤ 9223372036854775807 := by rw [z1]; omega
      have p3 : (⟨#[60, 97, 32, 105, 100, 61]⟩ ++ ⟨#[q]⟩ ++ S (escW l) : ByteArray).size + (⟨#[q]⟩ : ByteArray).size ≤ 9223372036854775807 := by rw [z2]; show _ + 1 ≤ _; omega
      have p4 : (⟨#[60, 97, 32, 105, 100, 61]⟩ ++ ⟨#[q]⟩ ++ S (escW l) ++ ⟨#[q]⟩ : ByteArray).size + (⟨#[32, 73, 68, 61, 111, 116, 104, 101, 114, 32, 98, 61, 99, 62]⟩ : ByteArray).size ≤ 9223372036854775807 := by rw [z3]; show _ + 14 ≤ _; omega
      have HRD := Lib.hid hRD
      have hv1 : ((S l).toList == (S l).toList) = true := beq_self_eq_true _
      have g1 : ((S [105, 100]).toList == [105, 100]) = true := by rw [toList_S]; rfl
      have g2 : ((S [98]).toList == [98]) = true := by rw [toList_S]; rfl
      have g3 : ((S [99]).toList == [99]) = true := by rw [toList_S]; rfl
      clear z1 z2 z3 z4 hX hRD ht hq hlen hk
      cases fo
      · obtain rfl : q = 34 := HQ.out
        generalize S (escW l) = ww at *
        go_wp2_with fail
        refine (HH.out _).mono ?_
        rintro e w' ⟨rfl, rfl⟩
        go_wp2_with fail
        refine (HRD.out _ (Below.refl _ _)).mono ?_
        rintro e w1 ⟨A, c, rfl, hrd, _, b1⟩
        have hrd : RdA w1 A 2 [idA l, bA] := hrd
        have hba := below_tok w1 #[.int .i64 kd, .string (S nm), .slice A 2 c, .bool false, .string ⟨#[]⟩]
        have hrd2 := hrd.keep hba
        obtain ⟨ad, rfl, m0, m1⟩ := rdA_at (j := 0) (x := idA l) hrd2 rfl
        obtain ⟨ad2, e2, m2, m3⟩ := rdA_at (j := 1) (x := bA) hrd2 rfl
        cases e2
        have HB1 := Lib.hid (below_both b1 hba)
        simp only [idA, bA, Nat.zero_mul, Nat.one_mul, add_zero_at, Addr.add_succ'] at m0 m1 m2 m3
        clear b1 hba hrd hrd2
        unfold tkV
        simp only [List.length_cons, List.length_nil, Nat.zero_add]
        go_wp2_with fail
        refine (tagknown_any _ (HL.out.below HB1.out)).mono ?_
        rintro e w6 ⟨rfl, b6⟩
        have HB6 := Lib.hid (below_then HB1.out HB1.out.size b6)
        clear b6
        go_wp2_with fail
        go_ret
        exact ⟨rfl, HB6.out⟩
      · obtain rfl : q = 39 := HQ.out
        generalize S (escW l) = ww at *
        go_wp2_with fail
        refine (HH.out _).mono ?_
        rintro e w' ⟨rfl, rfl⟩
        go_wp2_with fail
        refine (HRD.out _ (Below.refl _ _)).mono ?_
        rintro e w1 ⟨A, c, rfl, hrd, _, b1⟩
        have hrd : RdA w1 A 2 [idA l, bA] := hrd
        have hba := below_tok w1 #[.int .i64 kd, .string (S nm), .slice A 2 c, .bool false, .string ⟨#[]⟩]
        have hrd2 := hrd.keep hba
        obtain ⟨ad, rfl, m0, m1⟩ := rdA_at (j := 0) (x := idA l) hrd2 rfl
        obtain ⟨ad2, e2, m2, m3⟩ := rdA_at (j := 1) (x := bA) hrd2 rfl
        cases e2
        have HB1 := Lib.hid (below_both b1 hba)
        simp only [idA, bA, Nat.zero_mul, Nat.one_mul, add_zero_at, Addr.add_succ'] at m0 m1 m2 m3
        clear b1 hba hrd hrd2
        unfold tkV
        simp only [List.length_cons, List.length_nil, Nat.zero_add]
        go_wp2_with fail
        refine (tagknown_any _ (HL.out.below HB1.out)).mono ?_
        rintro e w6 ⟨rfl, b6⟩
        have HB6 := Lib.hid (below_then HB1.out HB1.out.size b6)
        clear b6
        go_wp2_with fail
        go_ret
        exact ⟨rfl, HB6.out⟩
end Go.Proofs.Ytmlaaonmofgidaa
