/- RefNumbersRead, walked. -/
import Derived.Test.YtpdbbpmkdkjppaaRefSame
import Derived.Test.YtpdbbpmkdkjppaaPiece
import Derived.Test.YtpdbbpmkdkjppaaReadsL
namespace Go.Proofs.Ytpdbbpmkdkjppaa
open Go.RowKit

theorem enc_ten (k : Nat) : Utf8.encode (wrap32 (wrap64 (48 + ((k % 10 : Nat) : Int)))) = S [digC (k % 10)] := by
  have h : k % 10 < 10 := Nat.mod_lt _ (by decide)
  generalize k % 10 = y at *
  have e : wrap32 (wrap64 (48 + (y : Int))) = ((48 + y : Nat) : Int) := by unfold wrap32 wrap64; omega
  rw [e, enc_one (by omega)]
  unfold digC
  rw [if_pos h]
  rfl
def hexText : ByteArray := ⟨#[48, 49, 50, 51, 52, 53, 54, 55, 56, 57, 97, 98, 99, 100, 101, 102]⟩
theorem hex_piece (k : Nat) : hexText.extract (k % 16) (k % 16 + 1) = S [digC (k % 16)] := by
  have h : k % 16 < 16 := Nat.mod_lt _ (by decide)
  have : ∀ y, y < 16 → pieceL (B hexText) y (y + 1) = [digC y] := by decide
  rw [S_piece, this _ h]

theorem B_app (a b : ByteArray) : B (a ++ b) = B a ++ B b := by
  unfold B
  simp only [ByteArray.data_append, Array.toList_append]
theorem not_dig33 (base : Nat) : digB base 33 = false := by unfold digB; rw [show hexB 33 = false from rfl]; rfl
theorem not_dig59 (base : Nat) : digB base 59 = false := by unfold digB; rw [show hexB 59 = false from rfl]; rfl
section
variable (attr : Bool) (m : ByteArray)
theorem reads_one (d : List UInt8) (hd : ∀ c ∈ d, digB 10 c = true) (hne : d ≠ []) : readR (B (⟨#[38, 35]⟩ ++ S d ++ ⟨#[59]⟩ ++ (⟨#[33]⟩ ++ m))) 0 attr = (numberS (numL 10 d), ((S d).size : Int) + 3) := by
  have e : B (⟨#[38, 35]⟩ ++ S d ++ ⟨#[59]⟩ ++ (⟨#[33]⟩ ++ m)) = [38, 35] ++ d ++ (59 :: 33 :: B m) := by
    simp only [B_app, B_S, List.append_assoc]; rfl
  rw [e, written_ten attr d _ hd hne (fun c hc => by obtain rfl := Option.some.inj hc; exact not_dig59 10), size_S, if_pos (show (59 :: 33 :: B m).head? = some 59 from rfl)]
  simp only [Prod.mk.injEq, true_and]; omega
theorem reads_two (d : List UInt8) (hd : ∀ c ∈ d, digB 10 c = true) (hne : d ≠ []) : readR (B (⟨#[38, 35]⟩ ++ S d ++ (⟨#[33]⟩ ++ m))) 0 attr = (numberS (numL 10 d), ((S d).size : Int) + 2) := by
  have e : B (⟨#[38, 35]⟩ ++ S d ++ (⟨#[33]⟩ ++ m)) = [38, 35] ++ d ++ (33 :: B m) := by
    simp only [B_app, B_S, List.append_assoc]; rfl
  rw [e, written_ten attr d _ hd hne (fun c hc => by obtain rfl := Option.some.inj hc; exact not_dig33 10), size_S, if_neg (by simp)]
  simp only [Prod.mk.injEq, true_and]; omega
theorem reads_three (d : List UInt8) (hd : ∀ c ∈ d, digB 16 c = true) (hne : d ≠ []) : readR (B (⟨#[38, 35, 120]⟩ ++ S d ++ ⟨#[59]⟩ ++ (⟨#[33]⟩ ++ m))) 0 attr = (numberS (numL 16 d), ((S d).size : Int) + 4) := by
  have e : B (⟨#[38, 35, 120]⟩ ++ S d ++ ⟨#[59]⟩ ++ (⟨#[33]⟩ ++ m)) = [38, 35, 120] ++ d ++ (59 :: 33 :: B m) := by
    simp only [B_app, B_S, List.append_assoc]; rfl
  rw [e, written_hex attr 120 (.inl rfl) d _ hd hne (fun c hc => by obtain rfl := Option.some.inj hc; exact not_dig59 16), size_S, if_pos (show (59 :: 33 :: B m).head? = some 59 from rfl)]
  simp only [Prod.mk.injEq, true_and]; omega
theorem reads_four (d : List UInt8) (hd : ∀ c ∈ d, digB 16 c = true) : readR (B (⟨#[38, 35, 88, 48, 48]⟩ ++ S d ++ (⟨#[33]⟩ ++ m))) 0 attr = (numberS (numL 16 d), ((S d).size : Int) + 5) := by
  have e : B (⟨#[38, 35, 88, 48, 48]⟩ ++ S d ++ (⟨#[33]⟩ ++ m)) = [38, 35, 88] ++ (48 :: 48 :: d) ++ (33 :: B m) := by
    simp only [B_app, B_S, List.append_assoc]; rfl
  rw [e, written_hex attr 88 (.inr rfl) (48 :: 48 :: d) _ (fun c hc => by
    rcases List.mem_cons.1 hc with rfl | hc
    · rfl
    · rcases List.mem_cons.1 hc with rfl | hc
      · rfl
      · exact hd c hc) (by simp) (fun c hc => by obtain rfl := Option.some.inj hc; exact not_dig33 16), size_S, if_neg (by simp)]
  rw [numL_cons, numL_cons, show hexV 48 = 0 from rfl]
  simp only [Nat.zero_mul, Nat.zero_add, Prod.mk.injEq, true_and, List.length_cons]; omega
end

set_option maxHeartbeats 4000000 in
set_option maxRecDepth 100000 in
theorem walk_RefNumbersRead (n0 : Int) (a1 : ByteArray) (attr : Bool) (w1 : a1.size ≤ maxLen) (w : World) (hL : Lax w) :
    Calls Try.prog 6 #[.int .i64 n0, .string a1, .bool attr] w fun e w' => e = .returned (.bool true) ∧ Below w.heap.size w w' := by
  unfold maxLen at w1
  have hm := headB_le a1 10
  have HL := Lib.hid hL
  have HH := Lib.hid (fun w => head_any a1 10 w (by omega) (by omega))
  rw [show (10 : Int).toNat = 10 from rfl] at HH
  generalize headB a1 10 = m at *
  have hb := withinI_bd n0 0 1114112 (by omega)
  have HW0 := Lib.hid (bwithin_any n0 0 1114112 · (by omega) (by omega) (by omega))
  generalize withinI n0 0 1114112 = n1 at *
  obtain ⟨n, rfl⟩ : ∃ n : Nat, n1 = (n : Int) := ⟨n1.toNat, by omega⟩
  have HNB : Hid (n ≤ 1114112) := by show _ ≤ _; omega
  have HM : Hid (m.size ≤ 10) := hm
  clear hL hb hm w1
  go_enter Try.func6, Try.ntmps6
  go_wp2_with fail
  refine (HW0.out _).mono ?_
  rintro e w2 ⟨rfl, rfl⟩
  go_wp2_with fail
  go_loop [7, 9] (fun tv kv => ∃ (k : Nat) (t : List UInt8), Hid (Wrote 10 n k t) ∧ Hid (t.length ≤ 21) ∧ Hid (k ≤ n) ∧ tv = .string (S t) ∧ kv = .int .i64 k) (fun tv kv => (intOf kv).toNat + (match tv with | .string s => if s.toList = [] then 1 else 0 | _ => 0))
  case atStart => exact ⟨n, [], Wrote.start 10 n, Nat.zero_le _, Nat.le_refl _, rfl, rfl⟩
  case round =>
    obtain ⟨k, t, HWr, HT, HK, rfl, rfl⟩ := hrel
    by_cases h0 : 0 < k
    · have m10 : (k : Int).tmod 10 = ((k % 10 : Nat) : Int) := tmod_nat k 10
      have d10 : (k : Int).tdiv 10 = ((k / 10 : Nat) : Int) := tdiv_nat k 10
      have HWD : Hid (wrap64 ((k / 10 : Nat) : Int) = ((k / 10 : Nat) : Int)) := by
        have h1 := HK.out; have h2 := HNB.out
        show _ = _
        unfold wrap64; omega
      have he := enc_ten k
      have HS := Lib.hid (HWr.out.step (by omega) (by omega))
      have HT2 : Hid ((digC (k % 10) :: t).length ≤ 21) := by
        show _ ≤ _
        rw [List.length_cons]
        have := HWr.out.len (by omega) h0 HNB.out; omega
      have hsum : (S [digC (k % 10)]).size + (S t).size ≤ 9223372036854775807 := by
        rw [size_S, size_S]; have := HT.out; simp only [List.length_cons, List.length_nil]; omega
      have HAP : Hid (S [digC (k % 10)] ++ S t = S (digC (k % 10) :: t)) := by show _ = _; rw [S_app]; rfl
      have HK2 : Hid (k / 10 ≤ n) := by show _ ≤ _; have := HK.out; omega
      have HME : Hid (k / 10 < k) := by show _ < _; omega
      have HNE : Hid (¬ (S (digC (k % 10) :: t)).toList = []) := by show ¬ _; rw [toList_S]; simp
      generalize k / 10 = q at *
      generalize digC (k % 10) = dg at *
      generalize k % 10 = y at *
      go_wp2_with fail
      refine ⟨⟨q, dg :: t, HS.out, HT2.out, HK2.out, by rw [HAP.out], by rw [HWD.out]⟩, ?_⟩
      rw [HAP.out, HWD.out]
      simp only [intOf, Int.toNat_natCast, if_neg HNE.out]
      have := HME.out
      omega
    · obtain rfl : k = 0 := by omega
      cases t with
      | nil =>
        have he : Utf8.encode 48 = S [48] := rfl
        have HAP : Hid (S [48] ++ S [] = S [48]) := by show _ = _; rw [S_app]; rfl
        have hsum : (S [48]).size + (S []).size ≤ 9223372036854775807 := by decide
        have HS : Hid (Wrote 10 n 0 [48]) := by
          have := HWr.out.step (k := 0) (by omega) (by omega)
          exact this
        have c1 : ((S []).toList == []) = true := by rw [toList_S]; rfl
        have c2 : (S []).toList.isEmpty = true := by rw [toList_S]; rfl
        have HN1 : Hid ((S []).toList = []) := toList_S []
        have HN2 : Hid (¬ (S [48]).toList = []) := by show ¬ _; rw [toList_S]; simp
        go_wp2_with fail
        refine ⟨⟨0, [48], HS.out, by show 1 ≤ 21; omega, Nat.zero_le _, by rw [HAP.out], rfl⟩, ?_⟩
        rw [HAP.out]
        simp only [intOf, if_pos HN1.out, if_neg HN2.out]
        omega
      | cons c t =>
        have HDG := Lib.hid HWr.out.digs
        have HVA := Lib.hid HWr.out.done
        have c1 : ((S (c :: t)).toList == []) = false := by rw [toList_S]; rfl
        have c2 : (S (c :: t)).toList.isEmpty = false := by rw [toList_S]; rfl
        have HNE : Hid (c :: t ≠ []) := by show _ ≠ _; simp
        clear HWr HK
        generalize c :: t = ten at *
        have HT0 := Lib.hid HT.out
        clear HT
        go_wp2_with fail
        go_loop [8, 10] (fun tv kv => ∃ (k : Nat) (t : List UInt8), Hid (Wrote 16 n k t) ∧ Hid (t.length ≤ 21) ∧ Hid (k ≤ n) ∧ tv = .string (S t) ∧ kv = .int .i64 k) (fun tv kv => (intOf kv).toNat + (match tv with | .string s => if s.toList = [] then 1 else 0 | _ => 0))
        case atStart => exact ⟨n, [], Wrote.start 16 n, Nat.zero_le _, Nat.le_refl _, rfl, rfl⟩
        case round =>
          obtain ⟨k, t, HWr, HT, HK, rfl, rfl⟩ := hrel
          by_cases h0 : 0 < k
          · have m16 : (k : Int).tmod 16 = ((k % 16 : Nat) : Int) := tmod_nat k 16
            have d16 : (k : Int).tdiv 16 = ((k / 16 : Nat) : Int) := tdiv_nat k 16
            have HWD : Hid (wrap64 ((k / 16 : Nat) : Int) = ((k / 16 : Nat) : Int)) := by
              have h1 := HK.out; have h2 := HNB.out
              show _ = _
              unfold wrap64; omega
            have he := hex_piece k
            have HS := Lib.hid (HWr.out.step (by omega) (by omega))
            have HT2 : Hid ((digC (k % 16) :: t).length ≤ 21) := by
              show _ ≤ _
              rw [List.length_cons]
              have := HWr.out.len (by omega) h0 HNB.out; omega
            have hsum : (S [digC (k % 16)]).size + (S t).size ≤ 9223372036854775807 := by
              rw [size_S, size_S]; have := HT.out; simp only [List.length_cons, List.length_nil]; omega
            have HAP : Hid (S [digC (k % 16)] ++ S t = S (digC (k % 16) :: t)) := by show _ = _; rw [S_app]; rfl
            have HK2 : Hid (k / 16 ≤ n) := by show _ ≤ _; have := HK.out; omega
            have HME : Hid (k / 16 < k) := by show _ < _; omega
            have HNE2 : Hid (¬ (S (digC (k % 16) :: t)).toList = []) := by show ¬ _; rw [toList_S]; simp
            have hy : k % 16 < 16 := Nat.mod_lt _ (by decide)
            unfold hexText at he
            generalize k / 16 = q at *
            generalize digC (k % 16) = dg at *
            generalize k % 16 = y at *
            go_wp2_with fail
            refine ⟨⟨q, dg :: t, HS.out, HT2.out, HK2.out, by rw [HAP.out], by rw [HWD.out]⟩, ?_⟩
            rw [HAP.out, HWD.out]
            simp only [intOf, Int.toNat_natCast, if_neg HNE2.out]
            have := HME.out
            omega
          · obtain rfl : k = 0 := by omega
            cases t with
            | nil =>
              have he : (⟨#[48, 49, 50, 51, 52, 53, 54, 55, 56, 57, 97, 98, 99, 100, 101, 102]⟩ : ByteArray).extract 0 1 = S [48] := hex_piece 0
              have HAP : Hid (S [48] ++ S [] = S [48]) := by show _ = _; rw [S_app]; rfl
              have hsum : (S [48]).size + (S []).size ≤ 9223372036854775807 := by decide
              have HS : Hid (Wrote 16 n 0 [48]) := by
                have := HWr.out.step (k := 0) (by omega) (by omega)
                exact this
              have c3 : ((S []).toList == []) = true := by rw [toList_S]; rfl
              have c4 : (S []).toList.isEmpty = true := by rw [toList_S]; rfl
              have HN1 : Hid ((S []).toList = []) := toList_S []
              have HN2 : Hid (¬ (S [48]).toList = []) := by show ¬ _; rw [toList_S]; simp
              go_wp2_with fail
              refine ⟨⟨0, [48], HS.out, by show 1 ≤ 21; omega, Nat.zero_le _, by rw [HAP.out], rfl⟩, ?_⟩
              rw [HAP.out]
              simp only [intOf, if_pos HN1.out, if_neg HN2.out]
              omega
            | cons c t =>
              have HDG2 := Lib.hid HWr.out.digs
              have HVA2 := Lib.hid HWr.out.done
              have c3 : ((S (c :: t)).toList == []) = false := by rw [toList_S]; rfl
              have c4 : (S (c :: t)).toList.isEmpty = false := by rw [toList_S]; rfl
              have HNE2 : Hid (c :: t ≠ []) := by show _ ≠ _; simp
              have HT1 := Lib.hid HT.out
              clear HWr HK HT
              generalize c :: t = hx at *
              have hz1 : (S ten).size ≤ 21 := by rw [size_S]; exact HT0.out
              have hz2 : (S hx).size ≤ 21 := by rw [size_S]; exact HT1.out
              have hm10 := HM.out
              have zm : (⟨#[33]⟩ ++ m : ByteArray).size = 1 + m.size := by rw [ByteArray.size_append]; rfl
              have za : (⟨#[38, 35]⟩ ++ S ten : ByteArray).size = 2 + (S ten).size := by rw [ByteArray.size_append]; rfl
              have za2 : (⟨#[38, 35]⟩ ++ S ten ++ ⟨#[59]⟩ : ByteArray).size = 2 + (S ten).size + 1 := by rw [ByteArray.size_append, za]; rfl
              have zb : (⟨#[38, 35, 120]⟩ ++ S hx : ByteArray).size = 3 + (S hx).size := by rw [ByteArray.size_append]; rfl
              have zb2 : (⟨#[38, 35, 120]⟩ ++ S hx ++ ⟨#[59]⟩ : ByteArray).size = 3 + (S hx).size + 1 := by rw [ByteArray.size_append, zb]; rfl
              have zc : (⟨#[38, 35, 88, 48, 48]⟩ ++ S hx : ByteArray).size = 5 + (S hx).size := by rw [ByteArray.size_append]; rfl
              have R1 := fun W => read_any (⟨#[38, 35]⟩ ++ S ten ++ ⟨#[59]⟩ ++ (⟨#[33]⟩ ++ m)) W attr (by rw [ByteArray.size_append, za2, zm]; omega) 0
              rw [reads_one attr m ten HDG.out HNE.out, HVA.out] at R1
              have R2 := fun W => read_any (⟨#[38, 35]⟩ ++ S ten ++ (⟨#[33]⟩ ++ m)) W attr (by rw [ByteArray.size_append, za, zm]; omega) 0
              rw [reads_two attr m ten HDG.out HNE.out, HVA.out] at R2
              have R3 := fun W => read_any (⟨#[38, 35, 120]⟩ ++ S hx ++ ⟨#[59]⟩ ++ (⟨#[33]⟩ ++ m)) W attr (by rw [ByteArray.size_append, zb2, zm]; omega) 0
              rw [reads_three attr m hx HDG2.out HNE2.out, HVA2.out] at R3
              have R4 := fun W => read_any (⟨#[38, 35, 88, 48, 48]⟩ ++ S hx ++ (⟨#[33]⟩ ++ m)) W attr (by rw [ByteArray.size_append, zc, zm]; omega) 0
              rw [reads_four attr m hx HDG2.out, HVA2.out] at R4
              obtain ⟨cr, hgr, hcr⟩ := numberS_rune n
              have hrs : (Conv.runesFrom (S (numberS n)) (S (numberS n)).size 0 #[]).size = 1 := by rw [hcr]; exact one_rune hgr
              have hconv := fun W => run_runes_of_string (P := Try.prog) W 9 35 21 (S (numberS n)) Try.underlying9 Try.underlying35 Try.underlying21 (by rw [hrs]; omega)
              rw [hrs] at hconv
              unfold valR at R1 R2 R3 R4
              simp only at R1 R2 R3 R4
              have R1 := Lib.hid R1
              have R2 := Lib.hid R2
              have R3 := Lib.hid R3
              have R4 := Lib.hid R4
              have p0 : (⟨#[33]⟩ : ByteArray).size + m.size ≤ 9223372036854775807 := by show 1 + _ ≤ _; omega
              have p1 : (⟨#[38, 35]⟩ : ByteArray).size + (S ten).size ≤ 9223372036854775807 := by show 2 + _ ≤ _; omega
              have p2 : (⟨#[38, 35]⟩ ++ S ten : ByteArray).size + (⟨#[59]⟩ : ByteArray).size ≤ 9223372036854775807 := by rw [za]; show 2 + (S ten).size + 1 ≤ _; omega
              have p3 : (⟨#[38, 35]⟩ ++ S ten ++ ⟨#[59]⟩ : ByteArray).size + (⟨#[33]⟩ ++ m : ByteArray).size ≤ 9223372036854775807 := by rw [za2, zm]; omega
              have p4 : (⟨#[38, 35]⟩ ++ S ten : ByteArray).size + (⟨#[33]⟩ ++ m : ByteArray).size ≤ 9223372036854775807 := by rw [za, zm]; omega
              have p5 : (⟨#[38, 35, 120]⟩ : ByteArray).size + (S hx).size ≤ 9223372036854775807 := by show 3 + _ ≤ _; omega
              have p6 : (⟨#[38, 35, 120]⟩ ++ S hx : ByteArray).size + (⟨#[59]⟩ : ByteArray).size ≤ 9223372036854775807 := by rw [zb]; show 3 + (S hx).size + 1 ≤ _; omega
              have p7 : (⟨#[38, 35, 120]⟩ ++ S hx ++ ⟨#[59]⟩ : ByteArray).size + (⟨#[33]⟩ ++ m : ByteArray).size ≤ 9223372036854775807 := by rw [zb2, zm]; omega
              have p8 : (⟨#[38, 35, 88, 48, 48]⟩ : ByteArray).size + (S hx).size ≤ 9223372036854775807 := by show 5 + _ ≤ _; omega
              have p9 : (⟨#[38, 35, 88, 48, 48]⟩ ++ S hx : ByteArray).size + (⟨#[33]⟩ ++ m : ByteArray).size ≤ 9223372036854775807 := by rw [zc, zm]; omega
              clear zm za za2 zb zb2 zc hcr hrs hgr hm10
              generalize S (numberS n) = ch at *
              have t1 : (ch.toList == ch.toList) = true := beq_self_eq_true _
              have t3 : ((S ten).size + 3 == (S ten).size + 3) = true := beq_self_eq_true _
              go_wp2_with fail
              refine (HH.out _).mono ?_
              rintro e w1 ⟨rfl, rfl⟩
              go_wp2_with fail
              refine (R1.out _).mono ?_
              rintro e w1 ⟨rfl, b1⟩
              have HB1 := Lib.hid b1
              clear b1
              go_wp2_with fail
              refine (R2.out _).mono ?_
              rintro e w2 ⟨rfl, b2⟩
              have HB2 := Lib.hid (below_both HB1.out b2)
              clear b2
              go_wp2_with fail
              refine (R3.out _).mono ?_
              rintro e w3 ⟨rfl, b3⟩
              have HB3 := Lib.hid (below_both HB2.out b3)
              clear b3
              go_wp2_with fail
              refine (R4.out _).mono ?_
              rintro e w4 ⟨rfl, b4⟩
              have HB4 := Lib.hid (below_both HB3.out b4)
              clear b4
              have hcw := hconv w4
              clear hconv
              go_wp2_with fail
              have HB5 := Lib.hid ((HB4.out.alloc HB4.out.size (.cells (Conv.runesFrom ch ch.size 0 #[] ++ Array.replicate (grownCap w4 1 0 21 - 1) (.int .i32 0)) 21)).drew)
              refine (refknown_any _ (HL.out.below HB5.out)).mono ?_
              rintro e w6 ⟨rfl, b6⟩
              have HB6 := Lib.hid (below_then HB5.out HB5.out.size b6)
              clear b6
              go_wp2_with fail
              go_ret
              exact ⟨rfl, HB6.out⟩
end Go.Proofs.Ytpdbbpmkdkjppaa
