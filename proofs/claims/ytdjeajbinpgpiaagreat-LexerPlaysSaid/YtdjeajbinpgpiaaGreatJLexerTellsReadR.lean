/- arbourref10.Read. -/
import Derived.Test.YtdjeajbinpgpiaaGreatJLexerTells19
import Derived.Test.YtdjeajbinpgpiaaGreatJLexerTellsDigR
import Derived.Test.YtdjeajbinpgpiaaGreatJLexerTellsNamedR
import Derived.Test.YtdjeajbinpgpiaaGreatJLexerTells10
namespace Go.Proofs.YtdjeajbinpgpiaaGreat
open Go.RowKit

theorem rstartsK (s : ByteArray) (k : Nat) (sub : ByteArray) (w : World) (hs : s.size ≤ 65536) (hk : k ≤ s.size) (ht : sub.size ≤ 65536) :
    Calls Tryz.prog 48 #[.string s, .int .i64 (k : Int), .string sub] w fun e w' => e = .returned (.bool (startsL (B s) (B sub) k)) ∧ w = w' := by
  have := rstarts_any s sub (k : Int) w (by omega) (by omega)
  rw [clampN_nat k s.size hk] at this
  exact this
theorem rfoldK (s : ByteArray) (k : Nat) (sub : ByteArray) (w : World) (hs : s.size ≤ 65536) (hk : k ≤ s.size) (ht : sub.size ≤ 65536) :
    Calls Tryz.prog 52 #[.string s, .int .i64 (k : Int), .string sub] w fun e w' => e = .returned (.bool (foldL (B s) (B sub) k)) ∧ Below w.heap.size w w' := by
  have := rfold_any s sub (k : Int) w (by omega) (by omega)
  rw [clampN_nat k s.size hk] at this
  exact this
theorem low_far38 (c : UInt8) : (38 == lowB c) = (38 == c) := by
  have h := lowB_toNat c
  rw [Bool.eq_iff_iff, beq_iff_eq, beq_iff_eq, ← UInt8.toNat_inj, ← UInt8.toNat_inj, h]
  have : (38 : UInt8).toNat = 38 := rfl
  split <;> omega
theorem low_far35 (c : UInt8) : (35 == lowB c) = (35 == c) := by
  have h := lowB_toNat c
  rw [Bool.eq_iff_iff, beq_iff_eq, beq_iff_eq, ← UInt8.toNat_inj, ← UInt8.toNat_inj, h]
  have : (35 : UInt8).toNat = 35 := rfl
  split <;> omega
theorem fold_hex (l : List UInt8) (k : Nat) : foldL l [38, 35, 120] k = (startsL l [38, 35] k && foldL l [120] (k + 2)) := by
  rw [fold_drop, starts_drop, fold_drop l [120] (k + 2), ← List.drop_drop]
  unfold foldL startsL Lib.occAt
  cases l.drop k with
  | nil => rfl
  | cons a r =>
    cases r with
    | nil =>
      show (38 == lowB a && List.isPrefixOf (lowL [35, 120]) []) = _
      show (38 == lowB a && false) = ((38 == a && false) && _)
      simp
    | cons b r =>
      show (38 == lowB a && (35 == lowB b && List.isPrefixOf (lowL [120]) (lowL r))) = ((38 == a && (35 == b && true)) && List.isPrefixOf (lowL [120]) (lowL r))
      rw [low_far38, low_far35]
      simp [Bool.and_assoc]
theorem semi_byte (s : ByteArray) (e : Nat) (h : e < s.size) : startsL (B s) [59] e = (s[e] == 59) := by
  rw [semi_at, head_at h, Bool.eq_iff_iff]
  simp
theorem semi_end (s : ByteArray) (e : Nat) (h : ¬ e < s.size) : startsL (B s) [59] e = false := by
  rw [semi_at, List.drop_eq_nil_of_le (by rw [← size_B]; omega)]
  rfl

section
variable (s : ByteArray) (w : World) (attr : Bool) (hs : s.size ≤ 65536)
include hs
/-- No ampersand stands there. -/
theorem rread_no (at_ : Int) (h : at_ < 0 ∨ (s.size : Int) ≤ at_ ∨ ∃ k : Nat, ∃ h : k < s.size, at_ = k ∧ s[k] ≠ 38) :
    Calls Tryz.prog 47 #[.string s, .int .i64 at_, .bool attr] w fun e w' => e = .returned (valR (readR (B s) at_ attr)) ∧ w = w' := by
  have HR : Hid (readR (B s) at_ attr = ([], at_)) := readR_no attr (B s) at_ (by
    rcases h with h | h | ⟨k, hk, rfl, hne⟩
    · exact .inl h
    · exact .inr (.inl (by rw [← size_B]; exact h))
    · exact .inr (.inr ⟨by omega, s[k], by rw [Int.toNat_natCast]; exact B_at s k hk, hne⟩))
  rcases h with h | h | ⟨k, hk, rfl, hne⟩
  · go_enter Tryz.func47, Tryz.ntmps47
    go_wp2_with fail
    go_ret2
    exact ⟨ret_read HR.out, rfl⟩
  · have h0 : 0 ≤ at_ := by omega
    go_enter Tryz.func47, Tryz.ntmps47
    go_wp2_with fail
    go_ret2
    exact ⟨ret_read HR.out, rfl⟩
  · have hne' : ((s[k].toNat : Int) != 38) = true := by
      rw [bne_iff_ne]; intro e; exact hne (UInt8.toNat_inj.1 (by show s[k].toNat = 38; omega))
    clear hne
    go_enter Tryz.func47, Tryz.ntmps47
    go_wp2_with fail
    go_ret2
    exact ⟨ret_read HR.out, rfl⟩
set_option maxHeartbeats 4000000 in
theorem rread_hex (k : Nat) (hk : k < s.size) (h38 : s[k] = 38) (hf : foldL (B s) [120] (k + 2) = true) (hf2 : startsL (B s) [38, 35] k = true) :
    Calls Tryz.prog 47 #[.string s, .int .i64 (k : Int), .bool attr] w fun e w' => e = .returned (valR (readR (B s) (k : Int) attr)) ∧ Below w.heap.size w w' := by
  have e0 : ((s[k].toNat : Int) != 38) = false := by rw [h38]; rfl
  have hr := readR_at attr (B s) k (by rw [head_at hk, h38])
  have h3 := starts_fits (by rw [← size_B]; omega) hf2
  rw [← size_B] at h3
  have h2 : k + 2 ≤ s.size := h3
  have hf3 : foldL (B s) [38, 35, 120] k = true := by rw [fold_hex, hf2, hf]; rfl
  have hfit := fold_fits (by rw [← size_B]; omega) hf3
  rw [← size_B] at hfit
  have hfit : k + 3 ≤ s.size := hfit
  rw [refS_hex hf3] at hr
  have HF := Lib.hid (rfoldK s (k + 2) ⟨#[120]⟩ w hs h2 (by decide))
  rw [show B ⟨#[120]⟩ = [120] from rfl, hf, show ((k + 2 : Nat) : Int) = (k : Int) + 2 by omega] at HF
  have HS := Lib.hid (rstartsK s k ⟨#[38, 35]⟩ w hs (by omega) (by decide))
  rw [show B ⟨#[38, 35]⟩ = [38, 35] from rfl, hf2] at HS
  have HD := Lib.hid (fun w => digits_any s (k + 3) 16 w hs hfit (by omega) (by omega))
  rw [show ((k + 3 : Nat) : Int) = (k : Int) + 3 by omega, show ((16 : Nat) : Int) = 16 from rfl] at HD
  by_cases hst : stopL (digB 16) (B s) (k + 3) = k + 3
  · rw [num_none hst] at hr
    have HR := Lib.hid hr
    rw [hst, show ((k + 3 : Nat) : Int) = (k : Int) + 3 by omega] at HD
    clear hr hst h38 hf hf2 hf3
    have d0 : ((k : Int) + 3 == (k : Int) + 3) = true := beq_self_eq_true _
    go_enter Tryz.func47, Tryz.ntmps47
    go_wp2_with fail
    refine HS.out.mono ?_
    rintro e w0 ⟨rfl, rfl⟩
    go_wp2_with fail
    refine HF.out.mono ?_
    rintro e w1 ⟨rfl, b1⟩
    have HB1 := Lib.hid b1
    clear b1
    go_wp2_with fail
    refine (HD.out _).mono ?_
    rintro e w2 ⟨n, rfl, hn, rfl⟩
    have HNN := Lib.hid hn
    clear hn
    go_wp2_with fail
    go_ret2
    exact ⟨ret_read HR.out, HB1.out⟩
  · obtain ⟨n0, hn, hkn⟩ := num_some (pre := 3) (base := 16) (l := B s) (k := k) rfl hst
    rw [hn, hkn] at hr
    have hle := stopL_le (digB 16) (B s) (k + 3) (by rw [← size_B]; exact hfit)
    rw [← size_B] at hle
    have hge := stopL_ge (digB 16) (B s) (k + 3)
    have d0 : (((stopL (digB 16) (B s) (k + 3) : Nat) : Int) == (k : Int) + 3) = false := by rw [beq_eq_false_iff_ne]; omega
    have HV0 : ∃ x, Hid (numberS (numL 16 (pieceL (B s) (k + 3) (stopL (digB 16) (B s) (k + 3)))) = x) := ⟨_, rfl⟩
    obtain ⟨x, HV⟩ := HV0
    rw [HV.out] at hr
    clear h38 hf hf2 hf3 hn hkn hst
    generalize stopL (digB 16) (B s) (k + 3) = y at *
    by_cases hys : y < s.size
    · have hsb := semi_byte s y hys
      by_cases h59 : s[y] = 59
      · rw [hsb, if_pos (by rw [h59]; rfl)] at hr
        have d1 : ((s[y].toNat : Int) == 59) = true := by rw [h59]; rfl
        have HR := Lib.hid hr
        clear hr hsb h59
        go_enter Tryz.func47, Tryz.ntmps47
        go_wp2_with fail
        refine HS.out.mono ?_
        rintro e w0 ⟨rfl, rfl⟩
        go_wp2_with fail
        refine HF.out.mono ?_
        rintro e w1 ⟨rfl, b1⟩
        have HB1 := Lib.hid b1
        clear b1
        go_wp2_with fail
        refine (HD.out _).mono ?_
        rintro e w2 ⟨n, rfl, hn, rfl⟩
        have HNN := Lib.hid hn
        clear hn
        go_wp2_with fail
        refine (rnumber_any n _).mono ?_
        rintro e w3 ⟨rfl, b3⟩
        have HB3 := Lib.hid (below_both HB1.out b3)
        clear b3
        go_wp2_with fail
        go_ret2
        exact ⟨ret_read (HR.out.trans (by rw [B_S, near_number HNN.out, HV.out]; rfl)), HB3.out⟩
      · rw [hsb, if_neg (by rw [beq_iff_eq]; exact h59)] at hr
        have d1 : ((s[y].toNat : Int) == 59) = false := by
          rw [beq_eq_false_iff_ne]; intro e; exact h59 (UInt8.toNat_inj.1 (by show _ = 59; omega))
        have HR := Lib.hid hr
        clear hr hsb h59
        go_enter Tryz.func47, Tryz.ntmps47
        go_wp2_with fail
        refine HS.out.mono ?_
        rintro e w0 ⟨rfl, rfl⟩
        go_wp2_with fail
        refine HF.out.mono ?_
        rintro e w1 ⟨rfl, b1⟩
        have HB1 := Lib.hid b1
        clear b1
        go_wp2_with fail
        refine (HD.out _).mono ?_
        rintro e w2 ⟨n, rfl, hn, rfl⟩
        have HNN := Lib.hid hn
        clear hn
        go_wp2_with fail
        refine (rnumber_any n _).mono ?_
        rintro e w3 ⟨rfl, b3⟩
        have HB3 := Lib.hid (below_both HB1.out b3)
        clear b3
        go_wp2_with fail
        go_ret2
        exact ⟨ret_read (HR.out.trans (by rw [B_S, near_number HNN.out, HV.out]; rfl)), HB3.out⟩
    · rw [semi_end s y hys, if_neg (by decide)] at hr
      have HR := Lib.hid hr
      clear hr
      go_enter Tryz.func47, Tryz.ntmps47
      go_wp2_with fail
      refine HS.out.mono ?_
      rintro e w0 ⟨rfl, rfl⟩
      go_wp2_with fail
      refine HF.out.mono ?_
      rintro e w1 ⟨rfl, b1⟩
      have HB1 := Lib.hid b1
      clear b1
      go_wp2_with fail
      refine (HD.out _).mono ?_
      rintro e w2 ⟨n, rfl, hn, rfl⟩
      have HNN := Lib.hid hn
      clear hn
      go_wp2_with fail
      refine (rnumber_any n _).mono ?_
      rintro e w3 ⟨rfl, b3⟩
      have HB3 := Lib.hid (below_both HB1.out b3)
      clear b3
      go_wp2_with fail
      go_ret2
      exact ⟨ret_read (HR.out.trans (by rw [B_S, near_number HNN.out, HV.out]; rfl)), HB3.out⟩
set_option maxHeartbeats 4000000 in
theorem rread_ten (k : Nat) (hk : k < s.size) (h38 : s[k] = 38) (hf : foldL (B s) [120] (k + 2) = false) (hf2 : startsL (B s) [38, 35] k = true) :
    Calls Tryz.prog 47 #[.string s, .int .i64 (k : Int), .bool attr] w fun e w' => e = .returned (valR (readR (B s) (k : Int) attr)) ∧ Below w.heap.size w w' := by
  have e0 : ((s[k].toNat : Int) != 38) = false := by rw [h38]; rfl
  have hr := readR_at attr (B s) k (by rw [head_at hk, h38])
  have h3 := starts_fits (by rw [← size_B]; omega) hf2
  rw [← size_B] at h3
  have h2 : k + 2 ≤ s.size := h3
  have hf3 : foldL (B s) [38, 35, 120] k = false := by rw [fold_hex, hf2, hf]; rfl
  have hfit := h2
  rw [refS_ten hf3 hf2] at hr
  have HF := Lib.hid (rfoldK s (k + 2) ⟨#[120]⟩ w hs h2 (by decide))
  rw [show B ⟨#[120]⟩ = [120] from rfl, hf, show ((k + 2 : Nat) : Int) = (k : Int) + 2 by omega] at HF
  have HS := Lib.hid (rstartsK s k ⟨#[38, 35]⟩ w hs (by omega) (by decide))
  rw [show B ⟨#[38, 35]⟩ = [38, 35] from rfl, hf2] at HS
  have HD := Lib.hid (fun w => digits_any s (k + 2) 10 w hs hfit (by omega) (by omega))
  rw [show ((k + 2 : Nat) : Int) = (k : Int) + 2 by omega, show ((10 : Nat) : Int) = 10 from rfl] at HD
  by_cases hst : stopL (digB 10) (B s) (k + 2) = k + 2
  · rw [num_none hst] at hr
    have HR := Lib.hid hr
    rw [hst, show ((k + 2 : Nat) : Int) = (k : Int) + 2 by omega] at HD
    clear hr hst h38 hf hf2 hf3
    have d0 : ((k : Int) + 2 == (k : Int) + 2) = true := beq_self_eq_true _
    go_enter Tryz.func47, Tryz.ntmps47
    go_wp2_with fail
    refine HS.out.mono ?_
    rintro e w0 ⟨rfl, rfl⟩
    go_wp2_with fail
    refine HF.out.mono ?_
    rintro e w1 ⟨rfl, b1⟩
    have HB1 := Lib.hid b1
    clear b1
    go_wp2_with fail
    refine (HD.out _).mono ?_
    rintro e w2 ⟨n, rfl, hn, rfl⟩
    have HNN := Lib.hid hn
    clear hn
    go_wp2_with fail
    go_ret2
    exact ⟨ret_read HR.out, HB1.out⟩
  · obtain ⟨n0, hn, hkn⟩ := num_some (pre := 2) (base := 10) (l := B s) (k := k) rfl hst
    rw [hn, hkn] at hr
    have hle := stopL_le (digB 10) (B s) (k + 2) (by rw [← size_B]; exact hfit)
    rw [← size_B] at hle
    have hge := stopL_ge (digB 10) (B s) (k + 2)
    have d0 : (((stopL (digB 10) (B s) (k + 2) : Nat) : Int) == (k : Int) + 2) = false := by rw [beq_eq_false_iff_ne]; omega
    have HV0 : ∃ x, Hid (numberS (numL 10 (pieceL (B s) (k + 2) (stopL (digB 10) (B s) (k + 2)))) = x) := ⟨_, rfl⟩
    obtain ⟨x, HV⟩ := HV0
    rw [HV.out] at hr
    clear h38 hf hf2 hf3 hn hkn hst
    generalize stopL (digB 10) (B s) (k + 2) = y at *
    by_cases hys : y < s.size
    · have hsb := semi_byte s y hys
      by_cases h59 : s[y] = 59
      · rw [hsb, if_pos (by rw [h59]; rfl)] at hr
        have d1 : ((s[y].toNat : Int) == 59) = true := by rw [h59]; rfl
        have HR := Lib.hid hr
        clear hr hsb h59
        go_enter Tryz.func47, Tryz.ntmps47
        go_wp2_with fail
        refine HS.out.mono ?_
        rintro e w0 ⟨rfl, rfl⟩
        go_wp2_with fail
        refine HF.out.mono ?_
        rintro e w1 ⟨rfl, b1⟩
        have HB1 := Lib.hid b1
        clear b1
        go_wp2_with fail
        refine (HD.out _).mono ?_
        rintro e w2 ⟨n, rfl, hn, rfl⟩
        have HNN := Lib.hid hn
        clear hn
        go_wp2_with fail
        refine (rnumber_any n _).mono ?_
        rintro e w3 ⟨rfl, b3⟩
        have HB3 := Lib.hid (below_both HB1.out b3)
        clear b3
        go_wp2_with fail
        go_ret2
        exact ⟨ret_read (HR.out.trans (by rw [B_S, near_number HNN.out, HV.out]; rfl)), HB3.out⟩
      · rw [hsb, if_neg (by rw [beq_iff_eq]; exact h59)] at hr
        have d1 : ((s[y].toNat : Int) == 59) = false := by
          rw [beq_eq_false_iff_ne]; intro e; exact h59 (UInt8.toNat_inj.1 (by show _ = 59; omega))
        have HR := Lib.hid hr
        clear hr hsb h59
        go_enter Tryz.func47, Tryz.ntmps47
        go_wp2_with fail
        refine HS.out.mono ?_
        rintro e w0 ⟨rfl, rfl⟩
        go_wp2_with fail
        refine HF.out.mono ?_
        rintro e w1 ⟨rfl, b1⟩
        have HB1 := Lib.hid b1
        clear b1
        go_wp2_with fail
        refine (HD.out _).mono ?_
        rintro e w2 ⟨n, rfl, hn, rfl⟩
        have HNN := Lib.hid hn
        clear hn
        go_wp2_with fail
        refine (rnumber_any n _).mono ?_
        rintro e w3 ⟨rfl, b3⟩
        have HB3 := Lib.hid (below_both HB1.out b3)
        clear b3
        go_wp2_with fail
        go_ret2
        exact ⟨ret_read (HR.out.trans (by rw [B_S, near_number HNN.out, HV.out]; rfl)), HB3.out⟩
    · rw [semi_end s y hys, if_neg (by decide)] at hr
      have HR := Lib.hid hr
      clear hr
      go_enter Tryz.func47, Tryz.ntmps47
      go_wp2_with fail
      refine HS.out.mono ?_
      rintro e w0 ⟨rfl, rfl⟩
      go_wp2_with fail
      refine HF.out.mono ?_
      rintro e w1 ⟨rfl, b1⟩
      have HB1 := Lib.hid b1
      clear b1
      go_wp2_with fail
      refine (HD.out _).mono ?_
      rintro e w2 ⟨n, rfl, hn, rfl⟩
      have HNN := Lib.hid hn
      clear hn
      go_wp2_with fail
      refine (rnumber_any n _).mono ?_
      rintro e w3 ⟨rfl, b3⟩
      have HB3 := Lib.hid (below_both HB1.out b3)
      clear b3
      go_wp2_with fail
      go_ret2
      exact ⟨ret_read (HR.out.trans (by rw [B_S, near_number HNN.out, HV.out]; rfl)), HB3.out⟩
set_option maxHeartbeats 8000000 in
theorem rread_name (k : Nat) (hk : k < s.size) (h38 : s[k] = 38) (hf2 : startsL (B s) [38, 35] k = false) :
    Calls Tryz.prog 47 #[.string s, .int .i64 (k : Int), .bool attr] w fun e w' => e = .returned (valR (readR (B s) (k : Int) attr)) ∧ Below w.heap.size w w' := by
  have e0 : ((s[k].toNat : Int) != 38) = false := by rw [h38]; rfl
  have hr := readR_at attr (B s) k (by rw [head_at hk, h38])
  have hf : foldL (B s) [38, 35, 120] k = false := by rw [fold_hex, hf2]; rfl
  rw [refS_name hf hf2] at hr
  have HS := Lib.hid (fun w => rstartsK s k ⟨#[38, 35]⟩ w hs (by omega) (by decide))
  rw [show B ⟨#[38, 35]⟩ = [38, 35] from rfl, hf2] at HS
  have HN := Lib.hid (fun w => rnamed_any (s.extract (k + 1) s.size) w)
  rw [B_drop] at HN
  have hnz := named_size ((B s).drop (k + 1))
  rw [List.length_drop, ← size_B] at hnz
  generalize hnr : namedR ((B s).drop (k + 1)) = r at *
  clear h38 hf hf2
  have hv : ∃ b, Hid (b = (attr && (B s)[k + r.1.size]? != some 59 && ((B s)[k + 1 + r.1.size]?).any wordB)) := ⟨_, rfl⟩
  obtain ⟨b, HV⟩ := hv
  by_cases hz : r.1.size = 0
  · rw [name_none hnr hz] at hr
    have HR := Lib.hid hr
    have d0 : ((r.1.size : Int) == 0) = true := by rw [hz]; rfl
    clear hr hz hnr
    obtain ⟨r1, r2⟩ := r
    go_enter Tryz.func47, Tryz.ntmps47
    go_wp2_with fail
    refine (HS.out _).mono ?_
    rintro e w1b ⟨rfl, rfl⟩
    go_wp2_with fail
    refine (HN.out _).mono ?_
    rintro e w2 ⟨rfl, b2⟩
    have HB2 := Lib.hid b2
    clear b2
    go_wp2_with fail
    go_ret2
    exact ⟨ret_read HR.out, HB2.out⟩
  · have d0 : ((r.1.size : Int) == 0) = false := by rw [beq_eq_false_iff_ne]; omega
    have hkn : k + r.1.size < s.size := by omega
    have hi1 := B_at s (k + r.1.size) hkn
    have hle : k + 1 + r.1.size ≤ s.size := by omega
    have hsz := hnz.2.1
    clear hnz
    cases attr with
    | false =>
      have HR : Hid (readR (B s) (k : Int) false = (B r.2, ((k + (1 + r.1.size) : Nat) : Int))) := hr.trans (by rw [name_plain hnr hz (by simp)])
      clear hr hnr hi1 HV hz
      obtain ⟨r1, r2⟩ := r
      simp only at hkn hle hsz
      go_enter Tryz.func47, Tryz.ntmps47
      go_wp2_with fail
      refine (HS.out _).mono ?_
      rintro e w1b ⟨rfl, rfl⟩
      go_wp2_with fail
      refine (HN.out _).mono ?_
      rintro e w2 ⟨rfl, b2⟩
      have HB2 := Lib.hid b2
      clear b2
      go_wp2_with fail
      go_ret2
      exact ⟨ret_read (HR.out.trans (by simp only [Prod.mk.injEq, true_and]; omega)), HB2.out⟩
    | true =>
      by_cases h59 : s[k + r.1.size] = 59
      · have HR : Hid (readR (B s) (k : Int) true = (B r.2, ((k + (1 + r.1.size) : Nat) : Int))) := hr.trans (by rw [name_plain hnr hz (by rw [hi1, h59]; rfl)])
        have e1 : ((s[k + r.1.size].toNat : Int) != 59) = false := by rw [h59]; rfl
        clear hr hnr hi1 HV hz h59
        obtain ⟨r1, r2⟩ := r
        simp only at hkn hle hsz e1
        go_enter Tryz.func47, Tryz.ntmps47
        go_wp2_with fail
        refine (HS.out _).mono ?_
        rintro e w1b ⟨rfl, rfl⟩
        go_wp2_with fail
        refine (HN.out _).mono ?_
        rintro e w2 ⟨rfl, b2⟩
        have HB2 := Lib.hid b2
        clear b2
        go_wp2_with fail
        go_ret2
        exact ⟨ret_read (HR.out.trans (by simp only [Prod.mk.injEq, true_and]; omega)), HB2.out⟩
      · have e1 : ((s[k + r.1.size].toNat : Int) != 59) = true := by
          rw [bne_iff_ne]; intro e; exact h59 (UInt8.toNat_inj.1 (by show _ = 59; omega))
        have h59' : (some s[k + r.1.size] != some (59 : UInt8)) = true := by rw [bne_iff_ne]; intro e; exact h59 (Option.some.inj e)
        clear h59
        by_cases hlt : k + 1 + r.1.size < s.size
        · have hi2 := B_at s (k + 1 + r.1.size) hlt
          have hlt2 : k + 1 + r.1.size < s.size := hlt
          have dlt : decide ((k : Int) + 1 + (r.1.size : Int) < (s.size : Int)) = true := decide_eq_true (by omega)
          have hcond : (true && (B s)[k + r.1.size]? != some 59 && ((B s)[k + 1 + r.1.size]?).any wordB) = wordB s[k + 1 + r.1.size] := by
            rw [hi1, h59', hi2]; simp
          have hwb : wordB s[k + 1 + r.1.size] = (s[k + 1 + r.1.size] == 61 || letterB s[k + 1 + r.1.size] || digitB s[k + 1 + r.1.size]) := rfl
          rw [hwb] at hcond
          by_cases h61 : s[k + 1 + r.1.size] = 61
          · have e2 : ((s[k + 1 + r.1.size].toNat : Int) == 61) = true := by rw [h61]; rfl
            rw [h61] at hcond
            have HR : Hid (readR (B s) (k : Int) true = (pieceL (B s) k (k + 1 + r.1.size), ((k + (1 + r.1.size) : Nat) : Int))) := hr.trans (by rw [name_left hnr hz (hcond.trans (by simp))])
            clear hr hnr hi1 hi2 HV hz h61 hcond hwb h59'
            obtain ⟨r1, r2⟩ := r
            simp only at *
            go_enter Tryz.func47, Tryz.ntmps47
            go_wp2_with fail
            refine (HS.out _).mono ?_
            rintro e w1b ⟨rfl, rfl⟩
            go_wp2_with fail
            refine (HN.out _).mono ?_
            rintro e w2 ⟨rfl, b2⟩
            have HB2 := Lib.hid b2
            clear b2
            go_wp2_with fail
            go_ret2
            exact ⟨ret_read (HR.out.trans (by rw [S_piece]; simp only [B_S, Prod.mk.injEq, true_and]; omega)), HB2.out⟩

          · have e2 : ((s[k + 1 + r.1.size].toNat : Int) == 61) = false := by
              rw [beq_eq_false_iff_ne]; intro e; exact h61 (UInt8.toNat_inj.1 (by show _ = 61; omega))
            rw [show (s[k + 1 + r.1.size] == 61) = false by rw [beq_eq_false_iff_ne]; exact h61] at hcond
            have HLE := Lib.hid (fun w => rletter10 s[k + 1 + r.1.size] w)
            have HDI := Lib.hid (fun w => rdigit_rune s[k + 1 + r.1.size] w)
            clear h61
            cases hl : letterB s[k + 1 + r.1.size] with
            | true =>
              rw [hl] at hcond HLE
              have HR : Hid (readR (B s) (k : Int) true = (pieceL (B s) k (k + 1 + r.1.size), ((k + (1 + r.1.size) : Nat) : Int))) := hr.trans (by rw [name_left hnr hz (hcond.trans (by simp))])
              clear hr hnr hi1 hi2 HV hz hcond hwb h59' hl HDI
              obtain ⟨r1, r2⟩ := r
              simp only at *
              go_enter Tryz.func47, Tryz.ntmps47
              go_wp2_with fail
              refine (HS.out _).mono ?_
              rintro e w1b ⟨rfl, rfl⟩
              go_wp2_with fail
              refine (HN.out _).mono ?_
              rintro e w2 ⟨rfl, b2⟩
              have HB2 := Lib.hid b2
              clear b2
              go_wp2_with fail
              refine (HLE.out _).mono ?_
              rintro e w3 ⟨rfl, rfl⟩
              go_wp2_with fail
              go_ret2
              exact ⟨ret_read (HR.out.trans (by rw [S_piece]; simp only [B_S, Prod.mk.injEq, true_and]; omega)), HB2.out⟩

            | false =>
              rw [hl] at hcond HLE
              cases hd : digitB s[k + 1 + r.1.size] with
              | true =>
                rw [hd] at hcond HDI
                have HR : Hid (readR (B s) (k : Int) true = (pieceL (B s) k (k + 1 + r.1.size), ((k + (1 + r.1.size) : Nat) : Int))) := hr.trans (by rw [name_left hnr hz (hcond.trans (by simp))])
                clear hr hnr hi1 hi2 HV hz hcond hwb h59' hl hd
                obtain ⟨r1, r2⟩ := r
                simp only at *
                go_enter Tryz.func47, Tryz.ntmps47
                go_wp2_with fail
                refine (HS.out _).mono ?_
                rintro e w1b ⟨rfl, rfl⟩
                go_wp2_with fail
                refine (HN.out _).mono ?_
                rintro e w2 ⟨rfl, b2⟩
                have HB2 := Lib.hid b2
                clear b2
                go_wp2_with fail
                refine (HLE.out _).mono ?_
                rintro e w3 ⟨rfl, rfl⟩
                go_wp2_with fail
                refine (HDI.out _).mono ?_
                rintro e w4 ⟨rfl, rfl⟩
                go_wp2_with fail
                go_ret2
                exact ⟨ret_read (HR.out.trans (by rw [S_piece]; simp only [B_S, Prod.mk.injEq, true_and]; omega)), HB2.out⟩

              | false =>
                rw [hd] at hcond HDI
                have HR : Hid (readR (B s) (k : Int) true = (B r.2, ((k + (1 + r.1.size) : Nat) : Int))) := hr.trans (by rw [name_plain hnr hz (hcond.trans (by simp))])
                clear hr hnr hi1 hi2 HV hz hcond hwb h59' hl hd
                obtain ⟨r1, r2⟩ := r
                simp only at *
                go_enter Tryz.func47, Tryz.ntmps47
                go_wp2_with fail
                refine (HS.out _).mono ?_
                rintro e w1b ⟨rfl, rfl⟩
                go_wp2_with fail
                refine (HN.out _).mono ?_
                rintro e w2 ⟨rfl, b2⟩
                have HB2 := Lib.hid b2
                clear b2
                go_wp2_with fail
                refine (HLE.out _).mono ?_
                rintro e w3 ⟨rfl, rfl⟩
                go_wp2_with fail
                refine (HDI.out _).mono ?_
                rintro e w4 ⟨rfl, rfl⟩
                go_wp2_with fail
                go_ret2
                exact ⟨ret_read (HR.out.trans (by simp only [Prod.mk.injEq, true_and]; omega)), HB2.out⟩

        · have hcond : (true && (B s)[k + r.1.size]? != some 59 && ((B s)[k + 1 + r.1.size]?).any wordB) = false := by
            rw [show (B s)[k + 1 + r.1.size]? = none by rw [List.getElem?_eq_none]; rw [← size_B]; omega]; simp
          have HR : Hid (readR (B s) (k : Int) true = (B r.2, ((k + (1 + r.1.size) : Nat) : Int))) := hr.trans (by rw [name_plain hnr hz (hcond)])
          clear hr hnr hi1 HV hz hcond h59'
          obtain ⟨r1, r2⟩ := r
          simp only at *
          go_enter Tryz.func47, Tryz.ntmps47
          go_wp2_with fail
          refine (HS.out _).mono ?_
          rintro e w1b ⟨rfl, rfl⟩
          go_wp2_with fail
          refine (HN.out _).mono ?_
          rintro e w2 ⟨rfl, b2⟩
          have HB2 := Lib.hid b2
          clear b2
          go_wp2_with fail
          go_ret2
          exact ⟨ret_read (HR.out.trans (by simp only [Prod.mk.injEq, true_and]; omega)), HB2.out⟩

theorem rfread_any (at_ : Int) :
    Calls Tryz.prog 47 #[.string s, .int .i64 at_, .bool attr] w fun e w' => e = .returned (valR (readR (B s) at_ attr)) ∧ Below w.heap.size w w' := by
  by_cases h0 : at_ < 0
  · exact (rread_no s w attr hs at_ (.inl h0)).mono fun _ _ ⟨h, h'⟩ => ⟨h, h' ▸ Below.refl _ _⟩
  · obtain ⟨k, rfl⟩ : ∃ k : Nat, at_ = (k : Int) := ⟨at_.toNat, by omega⟩
    by_cases hk : k < s.size
    · by_cases h38 : s[k] = 38
      · cases hf2 : startsL (B s) [38, 35] k with
        | false => exact rread_name s w attr hs k hk h38 hf2
        | true =>
          cases hf : foldL (B s) [120] (k + 2) with
          | true => exact rread_hex s w attr hs k hk h38 hf hf2
          | false => exact rread_ten s w attr hs k hk h38 hf hf2
      · exact (rread_no s w attr hs _ (.inr (.inr ⟨k, hk, rfl, h38⟩))).mono fun _ _ ⟨h, h'⟩ => ⟨h, h' ▸ Below.refl _ _⟩
    · exact (rread_no s w attr hs _ (.inr (.inl (by omega)))).mono fun _ _ ⟨h, h'⟩ => ⟨h, h' ▸ Below.refl _ _⟩
end
end Go.Proofs.YtdjeajbinpgpiaaGreat
