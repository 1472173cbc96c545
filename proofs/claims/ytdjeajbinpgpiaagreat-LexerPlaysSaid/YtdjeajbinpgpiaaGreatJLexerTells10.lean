/- Joined texts: Read, LexL0. -/
import Derived.Test.YtdjeajbinpgpiaaGreatJLexerTells2
import Derived.Test.YtdjeajbinpgpiaaGreatJLexerTells8
import Derived.Test.YtdjeajbinpgpiaaGreatJLexerTells9
import Derived.Test.YtdjeajbinpgpiaaGreatJLexerTells4
namespace Go.Proofs.YtdjeajbinpgpiaaGreat
open Go.RowKit

def valR (r : List UInt8 × Int) : Value := .tuple #[.string (S r.1), .int .i64 r.2]
theorem ret_read {a : ByteArray} {b : Int} {r : List UInt8 × Int} (h : r = (B a, b)) : Ending.returned (.tuple #[.string a, .int .i64 b]) = .returned (valR r) := by rw [h]; unfold valR; rw [S_B]
theorem head_at {s : ByteArray} {k : Nat} (h : k < s.size) : ((B s).drop k).head? = some s[k] := by rw [drop_at s k h]; rfl
theorem foldK (s : ByteArray) (k : Nat) (sub : ByteArray) (w : World) (hs : s.size ≤ 65536) (hk : k ≤ s.size) (ht : sub.size ≤ 65536) :
    Calls Tryz.prog 57 #[.string s, .int .i64 (k : Int), .string sub] w fun e w' => e = .returned (.bool (foldL (B s) (B sub) k)) ∧ Below w.heap.size w w' := by
  have := fold_any s sub (k : Int) w (by omega) (by omega)
  rw [clampN_nat k s.size hk] at this
  exact this
theorem fold_fits {l sub : List UInt8} {k : Nat} (hk : k ≤ l.length) (h : foldL l sub k = true) : k + sub.length ≤ l.length := by
  rw [fold_drop] at h
  have := fold_starts h
  rw [List.length_drop] at this; omega
theorem starts_fits {l sub : List UInt8} {k : Nat} (hk : k ≤ l.length) (h : startsL l sub k = true) : k + sub.length ≤ l.length := by
  rw [starts_drop] at h
  have := starts_len0 h
  rw [List.length_drop] at this; omega
theorem numP_none {l : List UInt8} {k base : Nat} (h : stopL (digB base) l k = k) : numP l k base = .tuple #[.string ⟨#[]⟩, .int .i64 0, .bool false] := by unfold numP; rw [if_pos h]
theorem numP_some {l : List UInt8} {k base e : Nat} (h : stopL (digB base) l k = e) (hne : e ≠ k) : numP l k base = .tuple #[.string (S (numberS (numL base (pieceL l k e)))), .int .i64 ((e + (if startsL l [59] e = true then 1 else 0) : Nat) : Int), .bool true] := by
  unfold numP
  rw [h, if_neg hne, semi_at]
  simp only [decide_eq_true_eq]

section
variable (s : ByteArray) (w : World) (attr : Bool) (hs : s.size ≤ 65536)
include hs
/-- No ampersand stands there. -/
theorem read_no (at_ : Int) (h : at_ < 0 ∨ (s.size : Int) ≤ at_ ∨ ∃ k : Nat, ∃ h : k < s.size, at_ = k ∧ s[k] ≠ 38) :
    Calls Tryz.prog 62 #[.string s, .int .i64 at_, .bool attr] w fun e w' => e = .returned (valR (readR (B s) at_ attr)) ∧ w = w' := by
  have HR : Hid (readR (B s) at_ attr = ([], at_)) := readR_no attr (B s) at_ (by
    rcases h with h | h | ⟨k, hk, rfl, hne⟩
    · exact .inl h
    · exact .inr (.inl (by rw [← size_B]; exact h))
    · exact .inr (.inr ⟨by omega, s[k], by rw [Int.toNat_natCast]; exact B_at s k hk, hne⟩))
  rcases h with h | h | ⟨k, hk, rfl, hne⟩
  · go_enter Tryz.func62, Tryz.ntmps62
    go_wp2_with fail
    go_ret2
    exact ⟨ret_read HR.out, rfl⟩
  · have h0 : 0 ≤ at_ := by omega
    go_enter Tryz.func62, Tryz.ntmps62
    go_wp2_with fail
    go_ret2
    exact ⟨ret_read HR.out, rfl⟩
  · have hne' : ((s[k].toNat : Int) != 38) = true := by
      rw [bne_iff_ne]; intro e; exact hne (UInt8.toNat_inj.1 (by show s[k].toNat = 38; omega))
    clear hne
    go_enter Tryz.func62, Tryz.ntmps62
    go_wp2_with fail
    go_ret2
    exact ⟨ret_read HR.out, rfl⟩
set_option maxHeartbeats 2000000 in
theorem read_hex (k : Nat) (hk : k < s.size) (h38 : s[k] = 38) (hf : foldL (B s) [38, 35, 120] k = true) :
    Calls Tryz.prog 62 #[.string s, .int .i64 (k : Int), .bool attr] w fun e w' => e = .returned (valR (readR (B s) (k : Int) attr)) ∧ Below w.heap.size w w' := by
  have e0 : ((s[k].toNat : Int) != 38) = false := by rw [h38]; rfl
  have hr := readR_at attr (B s) k (by rw [head_at hk, h38])
  have h3 := fold_fits (by rw [← size_B]; omega) hf
  rw [← size_B] at h3
  have h3 : k + 3 ≤ s.size := h3
  rw [refS_hex hf] at hr
  have HF := Lib.hid (foldK s k ⟨#[38, 35, 120]⟩ w hs (by omega) (by decide))
  rw [show B ⟨#[38, 35, 120]⟩ = [38, 35, 120] from rfl, hf] at HF
  have HN := Lib.hid (fun w => refnumber_any s (k + 3) 16 w hs h3 (by omega) (by omega))
  rw [show ((k + 3 : Nat) : Int) = (k : Int) + 3 by omega, show ((16 : Nat) : Int) = 16 from rfl] at HN
  by_cases hst : stopL (digB 16) (B s) (k + 3) = k + 3
  · rw [num_none hst] at hr
    have HR := Lib.hid hr
    rw [numP_none hst] at HN
    clear hr hst h38 hf
    go_enter Tryz.func62, Tryz.ntmps62
    go_wp2_with fail
    refine HF.out.mono ?_
    rintro e w1 ⟨rfl, b1⟩
    have HB1 := Lib.hid b1
    clear b1
    go_wp2_with fail
    refine (HN.out _).mono ?_
    rintro e w2 ⟨rfl, b2⟩
    have HB2 := Lib.hid (below_both HB1.out b2)
    clear b2
    go_wp2_with fail
    go_ret2
    exact ⟨ret_read HR.out, HB2.out⟩
  · obtain ⟨n, hn, hkn⟩ := num_some (pre := 3) (base := 16) (l := B s) (k := k) rfl hst
    rw [hn, hkn] at hr
    have HR := Lib.hid hr
    rw [numP_some rfl hst] at HN
    clear hr hst h38 hf hn hkn
    generalize numberS (numL 16 (pieceL (B s) (k + 3) (stopL (digB 16) (B s) (k + 3)))) = x at *
    generalize (stopL (digB 16) (B s) (k + 3) + if startsL (B s) [59] (stopL (digB 16) (B s) (k + 3)) = true then 1 else 0) = y at *
    go_enter Tryz.func62, Tryz.ntmps62
    go_wp2_with fail
    refine HF.out.mono ?_
    rintro e w1 ⟨rfl, b1⟩
    have HB1 := Lib.hid b1
    clear b1
    go_wp2_with fail
    refine (HN.out _).mono ?_
    rintro e w2 ⟨rfl, b2⟩
    have HB2 := Lib.hid (below_both HB1.out b2)
    clear b2
    go_wp2_with fail
    go_ret2
    exact ⟨ret_read HR.out, HB2.out⟩
set_option maxHeartbeats 2000000 in
theorem read_ten (k : Nat) (hk : k < s.size) (h38 : s[k] = 38) (hf : foldL (B s) [38, 35, 120] k = false) (hf2 : startsL (B s) [38, 35] k = true) :
    Calls Tryz.prog 62 #[.string s, .int .i64 (k : Int), .bool attr] w fun e w' => e = .returned (valR (readR (B s) (k : Int) attr)) ∧ Below w.heap.size w w' := by
  have e0 : ((s[k].toNat : Int) != 38) = false := by rw [h38]; rfl
  have hr := readR_at attr (B s) k (by rw [head_at hk, h38])
  have h3 := starts_fits (by rw [← size_B]; omega) hf2
  rw [← size_B] at h3
  have h3 : k + 2 ≤ s.size := h3
  rw [refS_ten hf hf2] at hr
  have HF := Lib.hid (foldK s k ⟨#[38, 35, 120]⟩ w hs (by omega) (by decide))
  rw [show B ⟨#[38, 35, 120]⟩ = [38, 35, 120] from rfl, hf] at HF
  have HS := Lib.hid (fun w => startsK s k ⟨#[38, 35]⟩ w hs (by omega))
  rw [show B ⟨#[38, 35]⟩ = [38, 35] from rfl, hf2] at HS
  have HN := Lib.hid (fun w => refnumber_any s (k + 2) 10 w hs h3 (by omega) (by omega))
  rw [show ((k + 2 : Nat) : Int) = (k : Int) + 2 by omega, show ((10 : Nat) : Int) = 10 from rfl] at HN
  by_cases hst : stopL (digB 10) (B s) (k + 2) = k + 2
  · rw [num_none hst] at hr
    have HR := Lib.hid hr
    rw [numP_none hst] at HN
    clear hr hst h38 hf hf2
    go_enter Tryz.func62, Tryz.ntmps62
    go_wp2_with fail
    refine HF.out.mono ?_
    rintro e w1 ⟨rfl, b1⟩
    have HB1 := Lib.hid b1
    clear b1
    go_wp2_with fail
    refine (HS.out _).mono ?_
    rintro e w1b ⟨rfl, rfl⟩
    go_wp2_with fail
    refine (HN.out _).mono ?_
    rintro e w2 ⟨rfl, b2⟩
    have HB2 := Lib.hid (below_both HB1.out b2)
    clear b2
    go_wp2_with fail
    go_ret2
    exact ⟨ret_read HR.out, HB2.out⟩
  · obtain ⟨n, hn, hkn⟩ := num_some (pre := 2) (base := 10) (l := B s) (k := k) rfl hst
    rw [hn, hkn] at hr
    have HR := Lib.hid hr
    rw [numP_some rfl hst] at HN
    clear hr hst h38 hf hf2 hn hkn
    generalize numberS (numL 10 (pieceL (B s) (k + 2) (stopL (digB 10) (B s) (k + 2)))) = x at *
    generalize (stopL (digB 10) (B s) (k + 2) + if startsL (B s) [59] (stopL (digB 10) (B s) (k + 2)) = true then 1 else 0) = y at *
    go_enter Tryz.func62, Tryz.ntmps62
    go_wp2_with fail
    refine HF.out.mono ?_
    rintro e w1 ⟨rfl, b1⟩
    have HB1 := Lib.hid b1
    clear b1
    go_wp2_with fail
    refine (HS.out _).mono ?_
    rintro e w1b ⟨rfl, rfl⟩
    go_wp2_with fail
    refine (HN.out _).mono ?_
    rintro e w2 ⟨rfl, b2⟩
    have HB2 := Lib.hid (below_both HB1.out b2)
    clear b2
    go_wp2_with fail
    go_ret2
    exact ⟨ret_read HR.out, HB2.out⟩
set_option maxHeartbeats 4000000 in
theorem read_name (k : Nat) (hk : k < s.size) (h38 : s[k] = 38) (hf : foldL (B s) [38, 35, 120] k = false) (hf2 : startsL (B s) [38, 35] k = false) :
    Calls Tryz.prog 62 #[.string s, .int .i64 (k : Int), .bool attr] w fun e w' => e = .returned (valR (readR (B s) (k : Int) attr)) ∧ Below w.heap.size w w' := by
  have e0 : ((s[k].toNat : Int) != 38) = false := by rw [h38]; rfl
  have hr := readR_at attr (B s) k (by rw [head_at hk, h38])
  rw [refS_name hf hf2] at hr
  have HF := Lib.hid (foldK s k ⟨#[38, 35, 120]⟩ w hs (by omega) (by decide))
  rw [show B ⟨#[38, 35, 120]⟩ = [38, 35, 120] from rfl, hf] at HF
  have HS := Lib.hid (fun w => startsK s k ⟨#[38, 35]⟩ w hs (by omega))
  rw [show B ⟨#[38, 35]⟩ = [38, 35] from rfl, hf2] at HS
  have HN := Lib.hid (fun w => named_any (s.extract (k + 1) s.size) w)
  rw [B_drop] at HN
  have hnz := named_size ((B s).drop (k + 1))
  rw [List.length_drop, ← size_B] at hnz
  generalize hnr : namedR ((B s).drop (k + 1)) = r at *
  clear h38 hf hf2
  have hv : ∃ b, Hid (b = (attr && (B s)[k + r.1.size]? != some 59 && ((B s)[k + 1 + r.1.size]?).any wordB)) := ⟨_, rfl⟩
  obtain ⟨b, HV⟩ := hv
  by_cases hz : r.1.size = 0
  · rw [name_none hnr hz] at hr
    have HR := Lib.hid hr
    have d0 : ((r.1.size : Int) == 0) = true := by rw [hz]; rfl
    clear hr hz hnr
    obtain ⟨r1, r2⟩ := r
    go_enter Tryz.func62, Tryz.ntmps62
    go_wp2_with fail
    refine HF.out.mono ?_
    rintro e w1 ⟨rfl, b1⟩
    have HB1 := Lib.hid b1
    clear b1
    go_wp2_with fail
    refine (HS.out _).mono ?_
    rintro e w1b ⟨rfl, rfl⟩
    go_wp2_with fail
    refine (HN.out _).mono ?_
    rintro e w2 ⟨rfl, b2⟩
    have HB2 := Lib.hid (below_both HB1.out b2)
    clear b2
    go_wp2_with fail
    go_ret2
    exact ⟨ret_read HR.out, HB2.out⟩
  · have d0 : ((r.1.size : Int) == 0) = false := by rw [beq_eq_false_iff_ne]; omega
    have hkn : k + r.1.size < s.size := by omega
    have hi1 := B_at s (k + r.1.size) hkn
    have hle : k + 1 + r.1.size ≤ s.size := by omega
    have hsz := hnz.2.1
    clear hnz
    cases attr with
    | false =>
      have HR : Hid (readR (B s) (k : Int) false = (B r.2, ((k + (1 + r.1.size) : Nat) : Int))) := hr.trans (by rw [name_plain hnr hz (by simp)])
      clear hr hnr hi1 HV hz
      obtain ⟨r1, r2⟩ := r
      simp only at hkn hle hsz
      go_enter Tryz.func62, Tryz.ntmps62
      go_wp2_with fail
      refine HF.out.mono ?_
      rintro e w1 ⟨rfl, b1⟩
      have HB1 := Lib.hid b1
      clear b1
      go_wp2_with fail
      refine (HS.out _).mono ?_
      rintro e w1b ⟨rfl, rfl⟩
      go_wp2_with fail
      refine (HN.out _).mono ?_
      rintro e w2 ⟨rfl, b2⟩
      have HB2 := Lib.hid (below_both HB1.out b2)
      clear b2
      go_wp2_with fail
      go_ret2
      exact ⟨ret_read (HR.out.trans (by simp only [Prod.mk.injEq, true_and]; omega)), HB2.out⟩
    | true =>
      by_cases h59 : s[k + r.1.size] = 59
      · have HR : Hid (readR (B s) (k : Int) true = (B r.2, ((k + (1 + r.1.size) : Nat) : Int))) := hr.trans (by rw [name_plain hnr hz (by rw [hi1, h59]; rfl)])
        have e1 : ((s[k + r.1.size].toNat : Int) != 59) = false := by rw [h59]; rfl
        clear hr hnr hi1 HV hz h59
        obtain ⟨r1, r2⟩ := r
        simp only at hkn hle hsz e1
        go_enter Tryz.func62, Tryz.ntmps62
        go_wp2_with fail
        refine HF.out.mono ?_
        rintro e w1 ⟨rfl, b1⟩
        have HB1 := Lib.hid b1
        clear b1
        go_wp2_with fail
        refine (HS.out _).mono ?_
        rintro e w1b ⟨rfl, rfl⟩
        go_wp2_with fail
        refine (HN.out _).mono ?_
        rintro e w2 ⟨rfl, b2⟩
        have HB2 := Lib.hid (below_both HB1.out b2)
        clear b2
        go_wp2_with fail
        go_ret2
        exact ⟨ret_read (HR.out.trans (by simp only [Prod.mk.injEq, true_and]; omega)), HB2.out⟩
      · have e1 : ((s[k + r.1.size].toNat : Int) != 59) = true := by
          rw [bne_iff_ne]; intro e; exact h59 (UInt8.toNat_inj.1 (by show _ = 59; omega))
        have h59' : (some s[k + r.1.size] != some (59 : UInt8)) = true := by rw [bne_iff_ne]; intro e; exact h59 (Option.some.inj e)
        clear h59
        by_cases hlt : k + 1 + r.1.size < s.size
        · have hi2 := B_at s (k + 1 + r.1.size) hlt
          have hlt2 : k + 1 + r.1.size < s.size := hlt
          have dlt : decide ((k : Int) + 1 + (r.1.size : Int) < (s.size : Int)) = true := decide_eq_true (by omega)
          have hcond : (true && (B s)[k + r.1.size]? != some 59 && ((B s)[k + 1 + r.1.size]?).any wordB) = wordB s[k + 1 + r.1.size] := by
            rw [hi1, h59', hi2]; simp
          have hwb : wordB s[k + 1 + r.1.size] = (s[k + 1 + r.1.size] == 61 || letterB s[k + 1 + r.1.size] || digitB s[k + 1 + r.1.size]) := rfl
          rw [hwb] at hcond
          have hwp := wrap_byte s[k + 1 + r.1.size]
          by_cases h61 : s[k + 1 + r.1.size] = 61
          · have e2 : (wrap32 (s[k + 1 + r.1.size].toNat : Int) == 61) = true := by rw [hwp, h61]; rfl
            rw [h61] at hcond
            have HR : Hid (readR (B s) (k : Int) true = (pieceL (B s) k (k + 1 + r.1.size), ((k + (1 + r.1.size) : Nat) : Int))) := hr.trans (by rw [name_left hnr hz (hcond.trans (by simp))])
            clear hr hnr hi1 hi2 HV hz h61 hcond hwb h59' hwp
            obtain ⟨r1, r2⟩ := r
            simp only at *
            go_enter Tryz.func62, Tryz.ntmps62
            go_wp2_with fail
            refine HF.out.mono ?_
            rintro e w1 ⟨rfl, b1⟩
            have HB1 := Lib.hid b1
            clear b1
            go_wp2_with fail
            refine (HS.out _).mono ?_
            rintro e w1b ⟨rfl, rfl⟩
            go_wp2_with fail
            refine (HN.out _).mono ?_
            rintro e w2 ⟨rfl, b2⟩
            have HB2 := Lib.hid (below_both HB1.out b2)
            clear b2
            go_wp2_with fail
            refine (clone_any _ _ (by have := size_extract_le s k (k + 1 + r1.size); omega)).mono ?_
            rintro e w5 ⟨rfl, b5⟩
            have HB5 := Lib.hid (below_then HB2.out HB2.out.size b5)
            clear b5
            go_wp2_with fail
            go_ret2
            exact ⟨ret_read (HR.out.trans (by rw [S_piece]; simp only [B_S, Prod.mk.injEq, true_and]; omega)), HB5.out⟩

          · have e2 : (wrap32 (s[k + 1 + r.1.size].toNat : Int) == 61) = false := by
              rw [hwp, beq_eq_false_iff_ne]; intro e; exact h61 (UInt8.toNat_inj.1 (by show _ = 61; omega))
            rw [show (s[k + 1 + r.1.size] == 61) = false by rw [beq_eq_false_iff_ne]; exact h61] at hcond
            have HLE := Lib.hid (fun w => letter_rune s[k + 1 + r.1.size] w)
            have HDI := Lib.hid (fun w => digit_rune s[k + 1 + r.1.size] w)
            clear h61
            cases hl : letterB s[k + 1 + r.1.size] with
            | true =>
              rw [hl] at hcond HLE
              have HR : Hid (readR (B s) (k : Int) true = (pieceL (B s) k (k + 1 + r.1.size), ((k + (1 + r.1.size) : Nat) : Int))) := hr.trans (by rw [name_left hnr hz (hcond.trans (by simp))])
              clear hr hnr hi1 hi2 HV hz hcond hwb h59' hl HDI hwp
              obtain ⟨r1, r2⟩ := r
              simp only at *
              go_enter Tryz.func62, Tryz.ntmps62
              go_wp2_with fail
              refine HF.out.mono ?_
              rintro e w1 ⟨rfl, b1⟩
              have HB1 := Lib.hid b1
              clear b1
              go_wp2_with fail
              refine (HS.out _).mono ?_
              rintro e w1b ⟨rfl, rfl⟩
              go_wp2_with fail
              refine (HN.out _).mono ?_
              rintro e w2 ⟨rfl, b2⟩
              have HB2 := Lib.hid (below_both HB1.out b2)
              clear b2
              go_wp2_with fail
              refine (HLE.out _).mono ?_
              rintro e w3 ⟨rfl, rfl⟩
              go_wp2_with fail
              refine (clone_any _ _ (by have := size_extract_le s k (k + 1 + r1.size); omega)).mono ?_
              rintro e w5 ⟨rfl, b5⟩
              have HB5 := Lib.hid (below_then HB2.out HB2.out.size b5)
              clear b5
              go_wp2_with fail
              go_ret2
              exact ⟨ret_read (HR.out.trans (by rw [S_piece]; simp only [B_S, Prod.mk.injEq, true_and]; omega)), HB5.out⟩

            | false =>
              rw [hl] at hcond HLE
              cases hd : digitB s[k + 1 + r.1.size] with
              | true =>
                rw [hd] at hcond HDI
                have HR : Hid (readR (B s) (k : Int) true = (pieceL (B s) k (k + 1 + r.1.size), ((k + (1 + r.1.size) : Nat) : Int))) := hr.trans (by rw [name_left hnr hz (hcond.trans (by simp))])
                clear hr hnr hi1 hi2 HV hz hcond hwb h59' hl hd hwp
                obtain ⟨r1, r2⟩ := r
                simp only at *
                go_enter Tryz.func62, Tryz.ntmps62
                go_wp2_with fail
                refine HF.out.mono ?_
                rintro e w1 ⟨rfl, b1⟩
                have HB1 := Lib.hid b1
                clear b1
                go_wp2_with fail
                refine (HS.out _).mono ?_
                rintro e w1b ⟨rfl, rfl⟩
                go_wp2_with fail
                refine (HN.out _).mono ?_
                rintro e w2 ⟨rfl, b2⟩
                have HB2 := Lib.hid (below_both HB1.out b2)
                clear b2
                go_wp2_with fail
                refine (HLE.out _).mono ?_
                rintro e w3 ⟨rfl, rfl⟩
                go_wp2_with fail
                refine (HDI.out _).mono ?_
                rintro e w4 ⟨rfl, rfl⟩
                go_wp2_with fail
                refine (clone_any _ _ (by have := size_extract_le s k (k + 1 + r1.size); omega)).mono ?_
                rintro e w5 ⟨rfl, b5⟩
                have HB5 := Lib.hid (below_then HB2.out HB2.out.size b5)
                clear b5
                go_wp2_with fail
                go_ret2
                exact ⟨ret_read (HR.out.trans (by rw [S_piece]; simp only [B_S, Prod.mk.injEq, true_and]; omega)), HB5.out⟩

              | false =>
                rw [hd] at hcond HDI
                have HR : Hid (readR (B s) (k : Int) true = (B r.2, ((k + (1 + r.1.size) : Nat) : Int))) := hr.trans (by rw [name_plain hnr hz (hcond.trans (by simp))])
                clear hr hnr hi1 hi2 HV hz hcond hwb h59' hl hd hwp
                obtain ⟨r1, r2⟩ := r
                simp only at *
                go_enter Tryz.func62, Tryz.ntmps62
                go_wp2_with fail
                refine HF.out.mono ?_
                rintro e w1 ⟨rfl, b1⟩
                have HB1 := Lib.hid b1
                clear b1
                go_wp2_with fail
                refine (HS.out _).mono ?_
                rintro e w1b ⟨rfl, rfl⟩
                go_wp2_with fail
                refine (HN.out _).mono ?_
                rintro e w2 ⟨rfl, b2⟩
                have HB2 := Lib.hid (below_both HB1.out b2)
                clear b2
                go_wp2_with fail
                refine (HLE.out _).mono ?_
                rintro e w3 ⟨rfl, rfl⟩
                go_wp2_with fail
                refine (HDI.out _).mono ?_
                rintro e w4 ⟨rfl, rfl⟩
                go_wp2_with fail
                go_ret2
                exact ⟨ret_read (HR.out.trans (by simp only [Prod.mk.injEq, true_and]; omega)), HB2.out⟩

        · have hcond : (true && (B s)[k + r.1.size]? != some 59 && ((B s)[k + 1 + r.1.size]?).any wordB) = false := by
            rw [show (B s)[k + 1 + r.1.size]? = none by rw [List.getElem?_eq_none]; rw [← size_B]; omega]; simp
          have HR : Hid (readR (B s) (k : Int) true = (B r.2, ((k + (1 + r.1.size) : Nat) : Int))) := hr.trans (by rw [name_plain hnr hz (hcond)])
          clear hr hnr hi1 HV hz hcond h59'
          obtain ⟨r1, r2⟩ := r
          simp only at *
          go_enter Tryz.func62, Tryz.ntmps62
          go_wp2_with fail
          refine HF.out.mono ?_
          rintro e w1 ⟨rfl, b1⟩
          have HB1 := Lib.hid b1
          clear b1
          go_wp2_with fail
          refine (HS.out _).mono ?_
          rintro e w1b ⟨rfl, rfl⟩
          go_wp2_with fail
          refine (HN.out _).mono ?_
          rintro e w2 ⟨rfl, b2⟩
          have HB2 := Lib.hid (below_both HB1.out b2)
          clear b2
          go_wp2_with fail
          go_ret2
          exact ⟨ret_read (HR.out.trans (by simp only [Prod.mk.injEq, true_and]; omega)), HB2.out⟩

theorem read_any (at_ : Int) :
    Calls Tryz.prog 62 #[.string s, .int .i64 at_, .bool attr] w fun e w' => e = .returned (valR (readR (B s) at_ attr)) ∧ Below w.heap.size w w' := by
  by_cases h0 : at_ < 0
  · exact (read_no s w attr hs at_ (.inl h0)).mono fun _ _ ⟨h, h'⟩ => ⟨h, h' ▸ Below.refl _ _⟩
  · obtain ⟨k, rfl⟩ : ∃ k : Nat, at_ = (k : Int) := ⟨at_.toNat, by omega⟩
    by_cases hk : k < s.size
    · by_cases h38 : s[k] = 38
      · cases hf : foldL (B s) [38, 35, 120] k with
        | true => exact read_hex s w attr hs k hk h38 hf
        | false =>
          cases hf2 : startsL (B s) [38, 35] k with
          | true => exact read_ten s w attr hs k hk h38 hf hf2
          | false => exact read_name s w attr hs k hk h38 hf hf2
      · exact (read_no s w attr hs _ (.inr (.inr ⟨k, hk, rfl, h38⟩))).mono fun _ _ ⟨h, h'⟩ => ⟨h, h' ▸ Below.refl _ _⟩
    · exact (read_no s w attr hs _ (.inr (.inl (by omega)))).mono fun _ _ ⟨h, h'⟩ => ⟨h, h' ▸ Below.refl _ _⟩
end
end Go.Proofs.YtdjeajbinpgpiaaGreat

/- The lexer: what is read of a text from a place on, as plain functions of lists of bytes. No program in sight. -/
namespace Go.Proofs.YtdjeajbinpgpiaaGreat

def tgTk (t : Tg) : Tk := ⟨t.kind, S t.name, t.attrs, t.self, ⟨#[]⟩⟩
def tmTk (t : Tm) : Tk := ⟨t.kind, S t.name, [], false, S t.text⟩
def eofT : Tk := ⟨6, ⟨#[]⟩, [], false, ⟨#[]⟩⟩
def txtT (l : List UInt8) : Tk := ⟨4, ⟨#[]⟩, [], false, S l⟩
/-- Does something stand there that is no text? -/
def markedX (x : List UInt8) (fo : Bool) (k : Nat) : Bool := (readM x k fo).2.2 || ((readT x k).2.2 || (readT x k).2.1 != (k : Int))
/-- Text from a place on: what it says, and where it ends. -/
def textF (x : List UInt8) (fo : Bool) : Nat → Nat → Bool → List UInt8 × Nat
  | 0, k, _ => ([], k)
  | f + 1, k, first =>
    match x[k]? with
    | none => ([], k)
    | some c =>
      if (c == 60 && (!first && markedX x fo k)) = true then ([], k)
      else if c = 38 then ((refS false (x.drop k)).1 ++ (textF x fo f (k + (refS false (x.drop k)).2) false).1, (textF x fo f (k + (refS false (x.drop k)).2) false).2)
      else (c :: (textF x fo f (k + 1) false).1, (textF x fo f (k + 1) false).2)
def textX (x : List UInt8) (fo : Bool) (k : Nat) (first : Bool) : List UInt8 × Nat := textF x fo (x.length + 1 - k) k first
/-- A token as usual, and the place behind it. -/
def dataF (x : List UInt8) (fo : Bool) : Nat → Nat → Tk × Nat
  | 0, _ => (eofT, x.length)
  | f + 1, k =>
    if x.length ≤ k then (eofT, x.length)
    else if (readT x k).2.2 = true then (tgTk (readT x k).1, (readT x k).2.1.toNat)
    else if (readT x k).2.1 ≠ (k : Int) then (eofT, x.length)
    else if (readM x k fo).2.2 = false then (txtT (textX x fo k true).1, (textX x fo k true).2)
    else if (readM x k fo).1.kind ≠ 0 then (tmTk (readM x k fo).1, (readM x k fo).2.1.toNat)
    else dataF x fo f (readM x k fo).2.1.toNat
def dataX (x : List UInt8) (fo : Bool) (k : Nat) : Tk × Nat := dataF x fo (x.length + 1 - k) k
/-- Does the last Start's End stand there? -/
def endsX (x st : List UInt8) (k : Nat) : Bool := decide (st ≠ []) && (foldL x (60 :: 47 :: st) k && (x[k + 2 + st.length]?).any (fun c => hasB [9, 10, 12, 13, 32, 47, 62] c))
def rawF (x st : List UInt8) : Nat → Nat → Nat
  | 0, k => k
  | f + 1, k => if x.length ≤ k then k else if endsX x st k = true then k else rawF x st f (k + 1)
/-- Where raw text ends that goes on at a place. -/
def rawEnd (x st : List UInt8) (k : Nat) : Nat := rawF x st (x.length + 1 - k) k
/-- How the lexer stands. -/
structure Lx where
  at_ : Nat
  mode : Int
  fo : Bool
  st : ByteArray
def afterL (s : Lx) (r : Tk × Nat) : Lx := ⟨r.2, s.mode, s.fo, if r.1.kd = 2 then r.1.nm else s.st⟩
def nextL (x : List UInt8) (s : Lx) : Tk × Lx :=
  if x.length ≤ s.at_ then (eofT, s)
  else if s.mode = 2 ∨ s.mode = 3 then
    (if endsX x (B s.st) s.at_ = true then ((dataX x s.fo s.at_).1, afterL { s with mode := 1 } (dataX x s.fo s.at_))
     else (txtT (if s.mode = 2 then allR false (pieceL x s.at_ (rawEnd x (B s.st) s.at_)) else pieceL x s.at_ (rawEnd x (B s.st) s.at_)), { s with at_ := rawEnd x (B s.st) s.at_ }))
  else if s.mode = 4 then (txtT (x.drop s.at_), { s with at_ := x.length })
  else ((dataX x s.fo s.at_).1, afterL s (dataX x s.fo s.at_))
def setL (s : Lx) (m : Int) : Lx := { s with mode := if m < 1 ∨ 4 < m then 1 else m }
def rawMode (nm : ByteArray) : Int :=
  if nm = ⟨#[116, 101, 120, 116, 97, 114, 101, 97]⟩ ∨ nm = ⟨#[116, 105, 116, 108, 101]⟩ then 2
  else if nm = ⟨#[115, 99, 114, 105, 112, 116]⟩ ∨ nm = ⟨#[115, 116, 121, 108, 101]⟩ ∨ nm = ⟨#[120, 109, 112]⟩ then 3
  else if nm = ⟨#[112, 108, 97, 105, 110, 116, 101, 120, 116]⟩ then 4 else 1
/-- All tokens. -/
def tokensF (x : List UInt8) : Nat → Lx → List Tk
  | 0, _ => []
  | f + 1, s => if (nextL x s).1.kd = 6 then [(nextL x s).1] else (nextL x s).1 :: tokensF x f (if (nextL x s).1.kd = 2 then setL (nextL x s).2 (rawMode (nextL x s).1.nm) else (nextL x s).2)
def startL : Lx := ⟨0, 1, false, ⟨#[]⟩⟩
def tokensL (x : List UInt8) : List Tk := tokensF x (x.length + 1) startL

/-! ### places -/
theorem readT_lost {x : List UInt8} {k : Nat} (h : (readT x k).2.2 = false) : (readT x k).2.1 = (k : Int) ∨ (readT x k).2.1 = (x.length : Int) := by
  unfold readT at h ⊢
  rw [if_neg (by omega)] at h ⊢
  split at h
  · rename_i h1
    rw [if_pos h1]
    rw [Int.toNat_natCast] at h ⊢
    unfold tagT at h ⊢
    split at h
    · rename_i h2
      rw [if_pos h2]
      cases hr : restT x (nameL x (fromT x k)) [] false with
      | none => exact .inr rfl
      | some r => rw [hr] at h; cases h
    · rename_i h2
      rw [if_neg h2]
      exact .inl rfl
  · rename_i h1
    rw [if_neg h1]
    exact .inl rfl
theorem tag_at {x : List UInt8} {k : Nat} (h : (readT x k).2.2 = true) : x[k]? = some 60 ∧ (x[fromT x k]?).any letterB = true ∧
    ∃ al sf n, restT x (nameL x (fromT x k)) [] false = some (al, sf, n) ∧ readT x k = (if endsAt x k = true then ⟨3, lowL (pieceL x (fromT x k) (nameL x (fromT x k))), [], false⟩ else ⟨2, lowL (pieceL x (fromT x k) (nameL x (fromT x k))), al, sf⟩, (n : Int), true) := by
  unfold readT at h ⊢
  rw [if_neg (by omega)] at h ⊢
  rw [Int.toNat_natCast] at *
  by_cases h1 : (x.drop k).head? = some 60
  · rw [if_pos h1] at h ⊢
    rw [List.head?_drop] at h1
    refine ⟨h1, ?_⟩
    unfold tagT at h ⊢
    by_cases h2 : (x[fromT x k]?).any letterB = true
    · rw [if_pos h2] at h ⊢
      refine ⟨h2, ?_⟩
      cases hr : restT x (nameL x (fromT x k)) [] false with
      | none => rw [hr] at h; cases h
      | some r => exact ⟨r.1, r.2.1, r.2.2, rfl, rfl⟩
    · rw [if_neg h2] at h; cases h
  · rw [if_neg h1] at h; cases h
theorem from_at (x : List UInt8) (k : Nat) : k + 1 ≤ fromT x k ∧ fromT x k ≤ k + 2 := by unfold fromT; split <;> omega
theorem readT_some {x : List UInt8} {k : Nat} (h : (readT x k).2.2 = true) : ∃ n : Nat, (readT x k).2.1 = (n : Int) ∧ k < n ∧ n ≤ x.length := by
  obtain ⟨h1, h2, al, sf, n, h3, h4⟩ := tag_at h
  refine ⟨n, by rw [h4], ?_⟩
  have hf := from_at x k
  have hle : fromT x k ≤ x.length := by obtain ⟨c, hc, _⟩ := any_at h2; have := lt_of_at hc; omega
  have hg : fromT x k ≤ nameL x (fromT x k) := stopL_ge _ _ _
  have hnl : nameL x (fromT x k) ≤ x.length := stopL_le _ _ _ hle
  have he := rest_end x _ _ [] false al sf n hnl h3
  have hs := skip_bd x (nameL x (fromT x k)) hnl
  omega
theorem behind_bd {x : List UInt8} {k a : Nat} (hk : k < x.length) (ha : k ≤ a) (hax : a ≤ x.length) : k < behindL x a ∧ behindL x a ≤ x.length := by
  unfold behindL
  have := findL_ge x [62] a hax
  omega
theorem comment_bd {x : List UInt8} {k a : Nat} (hk : k < x.length) (ha : k ≤ a) (hax : a ≤ x.length) : ∃ n : Nat, (commentM x a).2.1 = (n : Int) ∧ k < n ∧ n ≤ x.length := by
  have b1 := find_bd x endA a hax
  have b2 := find_bd x endB a hax
  unfold commentM
  split
  · rename_i h
    have := starts_fits hax h
    exact ⟨a + 1, rfl, by omega, this⟩
  split
  · rename_i h
    have := starts_fits hax h
    exact ⟨a + 2, rfl, by omega, this⟩
  split
  · rename_i h
    have := starts_fits b1.2 (find_occ hax (show findL x endA a < x.length by omega))
    have e : endA.length = 3 := rfl
    exact ⟨_, rfl, by omega, by omega⟩
  split
  · rename_i h
    have := starts_fits b2.2 (find_occ hax (show findL x endB a < x.length by omega))
    have e : endB.length = 4 := rfl
    exact ⟨_, rfl, by omega, by omega⟩
  · exact ⟨x.length, rfl, hk, Nat.le_refl _⟩
theorem readM_some {x : List UInt8} {k : Nat} {fo : Bool} (hk : k < x.length) (h : (readM x k fo).2.2 = true) : ∃ n : Nat, (readM x k fo).2.1 = (n : Int) ∧ k < n ∧ n ≤ x.length := by
  have hk' : k ≤ x.length := by omega
  have rub : ∀ a, k ≤ a → a ≤ x.length → ∃ n : Nat, (rubbishM x a).2.1 = (n : Int) ∧ k < n ∧ n ≤ x.length := fun a h1 h2 => ⟨_, rfl, behind_bd hk h1 h2⟩
  unfold readM at h ⊢
  rw [if_neg (by omega)] at h ⊢
  rw [Int.toNat_natCast] at h ⊢
  split
  · rename_i h1
    have := starts_fits hk' h1
    exact comment_bd hk (by omega) this
  rename_i n1
  rw [if_neg n1] at h
  split
  · rename_i h1
    have := fold_fits hk' h1
    have e : beginD.length = 9 := rfl
    have hs := skip_bd x (k + 9) (by omega)
    have hu := until_bd x endD (skipL x (k + 9)) hs.2
    exact ⟨_, rfl, behind_bd hk (by omega) hu.2⟩
  rename_i n2
  rw [if_neg n2] at h
  split
  · rename_i h1
    rw [Bool.and_eq_true] at h1
    have := starts_fits hk' h1.2
    have e : beginC.length = 9 := rfl
    have hf := find_bd x endC (k + 9) (by omega)
    exact ⟨min (findL x endC (k + 9) + 3) x.length, rfl, by omega, by omega⟩
  rename_i n3
  rw [if_neg n3] at h
  split
  · rename_i h1
    have := starts_fits hk' h1
    exact rub _ (by omega) this
  rename_i n4
  rw [if_neg n4] at h
  split
  · rename_i h1
    have := starts_fits hk' h1
    have e : ([60, 63] : List UInt8).length = 2 := rfl
    exact rub _ (by omega) (by omega)
  rename_i n5
  rw [if_neg n5] at h
  split
  · rename_i h1
    have := starts_fits hk' h1
    exact ⟨k + 3, rfl, by omega, this⟩
  rename_i n6
  rw [if_neg n6] at h
  split
  · rename_i h1
    rw [Bool.and_eq_true] at h1
    have := starts_fits hk' h1.1
    exact rub _ (by omega) this
  rename_i n7
  rw [if_neg n7] at h
  cases h
theorem ref_bd {x : List UInt8} {k : Nat} (hk : k < x.length) : 1 ≤ (refS false (x.drop k)).2 ∧ k + (refS false (x.drop k)).2 ≤ x.length := by
  have := refS_facts false (x.drop k) (by rw [List.length_drop]; omega)
  rw [List.length_drop] at this
  omega
theorem textF_more (x : List UInt8) (fo : Bool) : ∀ (f g k : Nat) (first : Bool), x.length < f + k → x.length < g + k → k ≤ x.length → textF x fo f k first = textF x fo g k first
  | 0, g, k, first, h, _, hk => by omega
  | f + 1, g, k, first, h, hg, hk => by
    obtain ⟨g, rfl⟩ : ∃ m, g = m + 1 := ⟨g - 1, by omega⟩
    unfold textF
    cases hc : x[k]? with
    | none => rfl
    | some c =>
      have hlt := lt_of_at hc
      have hr := ref_bd hlt
      simp only
      rw [textF_more x fo f g (k + (refS false (x.drop k)).2) false (by omega) (by omega) (by omega), textF_more x fo f g (k + 1) false (by omega) (by omega) (by omega)]
theorem textX_step (x : List UInt8) (fo : Bool) (k : Nat) (first : Bool) (hk : k ≤ x.length) : textX x fo k first =
    match x[k]? with
    | none => ([], k)
    | some c =>
      if (c == 60 && (!first && markedX x fo k)) = true then ([], k)
      else if c = 38 then ((refS false (x.drop k)).1 ++ (textX x fo (k + (refS false (x.drop k)).2) false).1, (textX x fo (k + (refS false (x.drop k)).2) false).2)
      else (c :: (textX x fo (k + 1) false).1, (textX x fo (k + 1) false).2) := by
  have e : textX x fo k first = textF x fo (x.length - k + 1) k first := by unfold textX; rw [show x.length + 1 - k = x.length - k + 1 by omega]
  rw [e]
  conv => lhs; unfold textF
  cases hc : x[k]? with
  | none => rfl
  | some c =>
    have hlt := lt_of_at hc
    have hr := ref_bd hlt
    simp only
    unfold textX
    rw [textF_more x fo (x.length - k) (x.length + 1 - (k + (refS false (x.drop k)).2)) (k + (refS false (x.drop k)).2) false (by omega) (by omega) (by omega),
      textF_more x fo (x.length - k) (x.length + 1 - (k + 1)) (k + 1) false (by omega) (by omega) (by omega)]
theorem textF_bd (x : List UInt8) (fo : Bool) : ∀ (f k : Nat) (first : Bool), k ≤ x.length → k ≤ (textF x fo f k first).2 ∧ (textF x fo f k first).2 ≤ x.length ∧ (textF x fo f k first).1.length ≤ 6 * ((textF x fo f k first).2 - k)
  | 0, k, first, hk => ⟨Nat.le_refl _, hk, by simp [textF]⟩
  | f + 1, k, first, hk => by
    unfold textF
    cases hc : x[k]? with
    | none => exact ⟨Nat.le_refl _, hk, by simp⟩
    | some c =>
      have hlt := lt_of_at hc
      have hr := ref_bd hlt
      have hz := refS_facts false (x.drop k) (by rw [List.length_drop]; omega)
      have i1 := textF_bd x fo f (k + (refS false (x.drop k)).2) false (by omega)
      have i2 := textF_bd x fo f (k + 1) false (by omega)
      simp only
      split
      · exact ⟨Nat.le_refl _, hk, by simp⟩
      split
      · simp only [List.length_append]; omega
      · simp only [List.length_cons]; omega
theorem textX_bd (x : List UInt8) (fo : Bool) (k : Nat) (first : Bool) (hk : k ≤ x.length) : k ≤ (textX x fo k first).2 ∧ (textX x fo k first).2 ≤ x.length ∧ (textX x fo k first).1.length ≤ 6 * x.length := by
  have := textF_bd x fo (x.length + 1 - k) k first hk
  unfold textX
  omega
/-- From one sign to the next: no '<', no '&' between. -/
theorem textX_plain (x : List UInt8) (fo : Bool) (k j : Nat) (first : Bool) (hk : k < x.length) (hj : k < j) (hjx : j ≤ x.length) (h1 : ∀ c, x[k]? = some c → (c == 60 && (!first && markedX x fo k)) = false ∧ c ≠ 38) (h2 : ∀ i c, k < i → i < j → x[i]? = some c → c ≠ 60 ∧ c ≠ 38) :
    textX x fo k first = (pieceL x k j ++ (textX x fo j false).1, (textX x fo j false).2) := by
  induction hd : j - k generalizing k first with
  | zero => omega
  | succ d ih =>
    obtain ⟨c, hc⟩ : ∃ c, x[k]? = some c := ⟨_, List.getElem?_eq_getElem hk⟩
    obtain ⟨e1, e2⟩ := h1 c hc
    rw [textX_step x fo k first (by omega), hc]
    simp only
    rw [if_neg (by rw [e1]; decide), if_neg e2]
    have hp : pieceL x k j = c :: pieceL x (k + 1) j := by
      unfold pieceL
      rw [show j - k = (j - (k + 1)) + 1 by omega, List.drop_eq_getElem_cons hk, List.take_succ_cons]
      rw [List.getElem?_eq_getElem hk] at hc
      rw [Option.some.inj hc]
    by_cases hj1 : k + 1 = j
    · subst hj1
      rw [hp]
      have : pieceL x (k + 1) (k + 1) = [] := by unfold pieceL; simp
      rw [this]; rfl
    · rw [hp, ih (k + 1) false (by omega) (by omega) (fun c' hc' => ⟨by have := (h2 (k + 1) c' (by omega) (by omega) hc').1; rw [Bool.and_eq_false_iff]; exact .inl (beq_eq_false_iff_ne.2 this), (h2 (k + 1) c' (by omega) (by omega) hc').2⟩) (fun i c' hi hi2 hc' => h2 i c' (by omega) hi2 hc') (by omega)]
      rfl
end Go.Proofs.YtdjeajbinpgpiaaGreat

/- The lexer, plain: its steps. No program in sight. -/
namespace Go.Proofs.YtdjeajbinpgpiaaGreat

theorem dataF_more (x : List UInt8) (fo : Bool) : ∀ (f g k : Nat), x.length < f + k → x.length < g + k → k ≤ x.length → dataF x fo f k = dataF x fo g k
  | 0, g, k, h, _, hk => by omega
  | f + 1, g, k, h, hg, hk => by
    obtain ⟨g, rfl⟩ : ∃ m, g = m + 1 := ⟨g - 1, by omega⟩
    unfold dataF
    split
    · rfl
    split
    · rfl
    split
    · rfl
    split
    · rfl
    split
    · rfl
    rename_i h1 _ _ h4 _
    obtain ⟨n, hn, h5, h6⟩ := readM_some (x := x) (k := k) (fo := fo) (by omega) (by simpa using h4)
    rw [hn, Int.toNat_natCast]
    exact dataF_more x fo f g n (by omega) (by omega) h6
theorem dataX_step (x : List UInt8) (fo : Bool) (k : Nat) (hk : k ≤ x.length) : dataX x fo k =
    if x.length ≤ k then (eofT, x.length)
    else if (readT x k).2.2 = true then (tgTk (readT x k).1, (readT x k).2.1.toNat)
    else if (readT x k).2.1 ≠ (k : Int) then (eofT, x.length)
    else if (readM x k fo).2.2 = false then (txtT (textX x fo k true).1, (textX x fo k true).2)
    else if (readM x k fo).1.kind ≠ 0 then (tmTk (readM x k fo).1, (readM x k fo).2.1.toNat)
    else dataX x fo (readM x k fo).2.1.toNat := by
  have e : dataX x fo k = dataF x fo (x.length - k + 1) k := by unfold dataX; rw [show x.length + 1 - k = x.length - k + 1 by omega]
  rw [e]
  conv => lhs; unfold dataF
  split
  · rfl
  split
  · rfl
  split
  · rfl
  split
  · rfl
  split
  · rfl
  rename_i h1 _ _ h4 _
  obtain ⟨n, hn, h5, h6⟩ := readM_some (x := x) (k := k) (fo := fo) (by omega) (by simpa using h4)
  rw [hn, Int.toNat_natCast]
  unfold dataX
  exact dataF_more x fo (x.length - k) (x.length + 1 - n) n (by omega) (by omega) h6
theorem rawF_more (x st : List UInt8) : ∀ (f g k : Nat), x.length < f + k → x.length < g + k → k ≤ x.length → rawF x st f k = rawF x st g k
  | 0, g, k, h, _, hk => by omega
  | f + 1, g, k, h, hg, hk => by
    obtain ⟨g, rfl⟩ : ∃ m, g = m + 1 := ⟨g - 1, by omega⟩
    unfold rawF
    split
    · rfl
    split
    · rfl
    exact rawF_more x st f g (k + 1) (by omega) (by omega) (by omega)
theorem rawEnd_step (x st : List UInt8) (k : Nat) (hk : k ≤ x.length) : rawEnd x st k = if x.length ≤ k then k else if endsX x st k = true then k else rawEnd x st (k + 1) := by
  have e : rawEnd x st k = rawF x st (x.length - k + 1) k := by unfold rawEnd; rw [show x.length + 1 - k = x.length - k + 1 by omega]
  rw [e]
  conv => lhs; unfold rawF
  split
  · rfl
  split
  · rfl
  unfold rawEnd
  exact rawF_more x st (x.length - k) (x.length + 1 - (k + 1)) (k + 1) (by omega) (by omega) (by omega)
theorem rawEnd_bd (x st : List UInt8) (k : Nat) (hk : k ≤ x.length) : k ≤ rawEnd x st k ∧ rawEnd x st k ≤ x.length := by
  induction hd : x.length - k generalizing k with
  | zero =>
    rw [rawEnd_step x st k hk, if_pos (by omega)]; omega
  | succ d ih =>
    rw [rawEnd_step x st k hk, if_neg (by omega)]
    split
    · omega
    · have := ih (k + 1) (by omega) (by omega)
      omega
theorem low_only {c d : UInt8} (h : lowB c = d) (hd : ¬ (97 ≤ d.toNat ∧ d.toNat ≤ 122)) : c = d := by
  have h1 := lowB_toNat c
  rw [h] at h1
  split at h1
  · omega
  · exact (UInt8.toNat_inj.1 h1).symm
/-- What ends raw text begins with '</'. -/
theorem ends_starts {x st : List UInt8} {k : Nat} (h : endsX x st k = true) : Lib.occAt x [60, 47] k = true := by
  unfold endsX at h
  rw [Bool.and_eq_true, Bool.and_eq_true] at h
  have hf := h.2.1
  unfold foldL Lib.occAt at hf
  rw [lowL_drop] at hf
  unfold Lib.occAt
  cases hd : x.drop k with
  | nil => rw [hd] at hf; cases hf
  | cons a r =>
    rw [hd] at hf
    cases r with
    | nil =>
      have hf : (lowB 60 == lowB a && List.isPrefixOf (lowB 47 :: lowL st) []) = true := hf
      rw [Bool.and_eq_true] at hf
      cases hf.2
    | cons b r =>
      have hf : (lowB 60 == lowB a && (lowB 47 == lowB b && List.isPrefixOf (lowL st) (lowL r))) = true := hf
      rw [Bool.and_eq_true, Bool.and_eq_true, beq_iff_eq, beq_iff_eq] at hf
      have e1 : a = 60 := low_only hf.1.symm (by decide)
      have e2 : b = 47 := low_only hf.2.1.symm (by decide)
      subst e1 e2
      show (60 == 60 && (47 == 47 && List.isPrefixOf [] r)) = true
      simp
/-- From a place where it does not end to the next '</'. -/
theorem rawEnd_find (x st : List UInt8) (k : Nat) (hk : k < x.length) (h : endsX x st k = false) : rawEnd x st k = rawEnd x st (findL x [60, 47] (k + 1)) := by
  have hc := findL_cases x [60, 47] (k + 1) (by omega)
  have hb := find_bd x [60, 47] (k + 1) (by omega)
  have key : ∀ d j, findL x [60, 47] (k + 1) - j = d → k + 1 ≤ j → j ≤ findL x [60, 47] (k + 1) → rawEnd x st j = rawEnd x st (findL x [60, 47] (k + 1)) := fun d => by
    induction d with
    | zero => intro j h1 h2 h3; rw [show j = findL x [60, 47] (k + 1) by omega]
    | succ d ih =>
      intro j h1 h2 h3
      rw [rawEnd_step x st j (by omega), if_neg (by omega), if_neg, ih (j + 1) (by omega) (by omega) (by omega)]
      intro he
      have := hc.2 j h2 (by omega)
      rw [ends_starts he] at this
      cases this
  rw [rawEnd_step x st k (by omega), if_neg (by omega), if_neg (by rw [h]; decide)]
  exact key _ (k + 1) rfl (Nat.le_refl _) hb.1
end Go.Proofs.YtdjeajbinpgpiaaGreat

/- The lexer goes on: the plain law. No program in sight. -/
namespace Go.Proofs.YtdjeajbinpgpiaaGreat

theorem textX_gt (x : List UInt8) (fo : Bool) (k : Nat) (hk : k < x.length) : k < (textX x fo k true).2 := by
  obtain ⟨c, hc⟩ : ∃ c, x[k]? = some c := ⟨_, List.getElem?_eq_getElem hk⟩
  have hr := ref_bd hk
  rw [textX_step x fo k true (by omega), hc]
  simp only
  rw [if_neg (by simp)]
  split
  · have := (textX_bd x fo (k + (refS false (x.drop k)).2) false (by omega)).1
    show k < (textX x fo (k + (refS false (x.drop k)).2) false).2
    omega
  · have := (textX_bd x fo (k + 1) false (by omega)).1
    show k < (textX x fo (k + 1) false).2
    omega
theorem tm_kinds (x : List UInt8) (k : Nat) (fo : Bool) : (readM x k fo).1.kind = 0 ∨ (readM x k fo).1.kind = 1 ∨ (readM x k fo).1.kind = 4 ∨ (readM x k fo).1.kind = 5 := by
  have hc : ∀ a, (commentM x a).1.kind = 5 := fun a => by
    unfold commentM
    split <;> (try split) <;> (try split) <;> (try split) <;> rfl
  have hd : ∀ a, (dataM x a).1.kind = 0 ∨ (dataM x a).1.kind = 4 := fun a => by
    unfold dataM
    simp only
    split
    · exact .inl rfl
    · exact .inr rfl
  unfold readM
  split
  · exact .inl rfl
  split
  · exact .inr (.inr (.inr (hc _)))
  split
  · exact .inr (.inl rfl)
  split
  · rcases hd (((k : Int).toNat) + 9) with h | h
    · exact .inl h
    · exact .inr (.inr (.inl h))
  split
  · exact .inr (.inr (.inr rfl))
  split
  · exact .inr (.inr (.inr rfl))
  split
  · exact .inl rfl
  split
  · exact .inr (.inr (.inr rfl))
  · exact .inl rfl
theorem tm_name (x : List UInt8) (k : Nat) (fo : Bool) : (readM x k fo).1.name.length ≤ x.length := by
  have hc : ∀ a, (commentM x a).1.name = [] := fun a => by
    unfold commentM
    split <;> (try split) <;> (try split) <;> (try split) <;> rfl
  have hd : ∀ a, (dataM x a).1.name = [] := fun a => by
    unfold dataM
    simp only
    split <;> rfl
  have hz : ([] : List UInt8).length ≤ x.length := Nat.zero_le _
  unfold readM
  split
  · exact hz
  split
  · rw [hc]; exact hz
  split
  · unfold doctypeM
    simp only
    rw [lowL_length]
    unfold pieceL
    rw [List.length_take, List.length_drop]
    omega
  split
  · rw [hd]; exact hz
  split
  · exact hz
  split
  · exact hz
  split
  · exact hz
  split
  · exact hz
  · exact hz
theorem tg_parts (x : List UInt8) (k : Nat) (h : (readT x k).2.2 = true) : ((readT x k).1.kind = 2 ∨ (readT x k).1.kind = 3) ∧ (readT x k).1.name.length ≤ x.length := by
  obtain ⟨_, _, al, sf, n, _, h4⟩ := tag_at h
  have hl : ∀ i j, (pieceL x i j).length ≤ x.length := fun i j => by unfold pieceL; rw [List.length_take, List.length_drop]; omega
  rw [h4]
  simp only
  split
  · exact ⟨.inr rfl, by rw [lowL_length]; exact hl _ _⟩
  · exact ⟨.inl rfl, by rw [lowL_length]; exact hl _ _⟩
theorem dataX_goes (x : List UInt8) (fo : Bool) : ∀ (d k : Nat), x.length - k = d → k ≤ x.length →
    (dataX x fo k = (eofT, x.length)) ∨ ((dataX x fo k).1.kd ≠ 6 ∧ k < (dataX x fo k).2 ∧ (dataX x fo k).2 ≤ x.length ∧ (dataX x fo k).1.nm.size ≤ x.length) := fun d => by
  induction d using Nat.strongRecOn with
  | _ d ih =>
    intro k hd hk
    rw [dataX_step x fo k hk]
    split
    · exact .inl rfl
    rename_i h0
    split
    · rename_i h1
      obtain ⟨n, hn, h2, h3⟩ := readT_some h1
      obtain ⟨h4, h5⟩ := tg_parts x k h1
      refine .inr ⟨?_, ?_, ?_, ?_⟩
      · show (readT x k).1.kind ≠ 6
        rcases h4 with h4 | h4 <;> rw [h4] <;> decide
      · rw [hn, Int.toNat_natCast]; exact h2
      · rw [hn, Int.toNat_natCast]; exact h3
      · show (S (readT x k).1.name).size ≤ _
        rw [size_S]; exact h5
    split
    · exact .inl rfl
    split
    · have hb := textX_bd x fo k true hk
      exact .inr ⟨by show (4 : Int) ≠ 6; decide, textX_gt x fo k (by omega), hb.2.1, Nat.zero_le _⟩
    rename_i h1 _ h4
    obtain ⟨n, hn, h5, h6⟩ := readM_some (x := x) (k := k) (fo := fo) (by omega) (by simpa using h4)
    split
    · rename_i hk0
      have hkd := tm_kinds x k fo
      refine .inr ⟨?_, ?_, ?_, ?_⟩
      · show (readM x k fo).1.kind ≠ 6
        rcases hkd with e | e | e | e <;> rw [e] <;> decide
      · rw [hn, Int.toNat_natCast]; exact h5
      · rw [hn, Int.toNat_natCast]; exact h6
      · show (S (readM x k fo).1.name).size ≤ _
        rw [size_S]
        exact tm_name x k fo
    · rw [hn, Int.toNat_natCast]
      rcases ih (x.length - n) (by omega) n rfl h6 with h | ⟨g1, g2, g3, g4⟩
      · exact .inl h
      · exact .inr ⟨g1, by omega, g3, g4⟩
/-- Each token but the end goes on. -/
theorem nextL_goes (x : List UInt8) (s : Lx) (hs : s.at_ ≤ x.length) :
    ((nextL x s).1 = eofT ∧ (nextL x s).2.at_ = x.length ∧ (nextL x s).2.st = s.st) ∨
    ((nextL x s).1.kd ≠ 6 ∧ s.at_ < (nextL x s).2.at_ ∧ (nextL x s).2.at_ ≤ x.length ∧ ((nextL x s).2.st = s.st ∨ (nextL x s).2.st.size ≤ x.length)) := by
  have hdat : ∀ s' : Lx, s'.st = s.st → ((dataX x s.fo s.at_).1 = eofT ∧ (afterL s' (dataX x s.fo s.at_)).at_ = x.length ∧ (afterL s' (dataX x s.fo s.at_)).st = s.st) ∨
      ((dataX x s.fo s.at_).1.kd ≠ 6 ∧ s.at_ < (afterL s' (dataX x s.fo s.at_)).at_ ∧ (afterL s' (dataX x s.fo s.at_)).at_ ≤ x.length ∧ ((afterL s' (dataX x s.fo s.at_)).st = s.st ∨ (afterL s' (dataX x s.fo s.at_)).st.size ≤ x.length)) := fun s' hst => by
    rcases dataX_goes x s.fo _ s.at_ rfl hs with h | ⟨h1, h2, h3, h4⟩
    · refine .inl ⟨by rw [h], by rw [h]; rfl, ?_⟩
      rw [h]
      unfold afterL
      show (if (6 : Int) = 2 then eofT.nm else s'.st) = s.st
      rw [if_neg (by decide), hst]
    · refine .inr ⟨h1, h2, h3, ?_⟩
      unfold afterL
      simp only
      split
      · exact .inr h4
      · exact .inl hst
  unfold nextL
  split
  · exact .inl ⟨rfl, by show s.at_ = _; omega, rfl⟩
  rename_i hlt
  split
  · split
    · exact hdat { s with mode := 1 } rfl
    · rename_i he
      have hb := rawEnd_bd x (B s.st) (s.at_ + 1) (by omega)
      have hr := rawEnd_step x (B s.st) s.at_ hs
      rw [if_neg hlt, if_neg he] at hr
      refine .inr ⟨by show (4 : Int) ≠ 6; decide, ?_, ?_, .inl rfl⟩
      · show s.at_ < rawEnd x (B s.st) s.at_
        omega
      · show rawEnd x (B s.st) s.at_ ≤ _
        omega
  split
  · exact .inr ⟨by show (4 : Int) ≠ 6; decide, by show s.at_ < x.length; omega, Nat.le_refl _, .inl rfl⟩
  · exact hdat s rfl

/-! ### all tokens -/
def goL (x : List UInt8) (s : Lx) : Lx := if (nextL x s).1.kd = 2 then setL (nextL x s).2 (rawMode (nextL x s).1.nm) else (nextL x s).2
theorem goL_at (x : List UInt8) (s : Lx) : (goL x s).at_ = (nextL x s).2.at_ ∧ (goL x s).st = (nextL x s).2.st := by
  unfold goL
  split
  · exact ⟨rfl, rfl⟩
  · exact ⟨rfl, rfl⟩
theorem tokensF_more (x : List UInt8) : ∀ (f g : Nat) (s : Lx), s.at_ ≤ x.length → x.length < f + s.at_ → x.length < g + s.at_ → tokensF x f s = tokensF x g s
  | 0, g, s, hs, h, _ => by omega
  | f + 1, g, s, hs, h, hg => by
    obtain ⟨g, rfl⟩ : ∃ m, g = m + 1 := ⟨g - 1, by omega⟩
    unfold tokensF
    have he := goL_at x s
    rcases nextL_goes x s hs with ⟨h1, _, _⟩ | ⟨h1, h2, h3, _⟩
    · rw [if_pos (by rw [h1]; rfl), if_pos (by rw [h1]; rfl)]
    · rw [if_neg h1, if_neg h1]
      congr 1
      exact tokensF_more x f g (goL x s) (by omega) (by omega) (by omega)
def toksL (x : List UInt8) (s : Lx) : List Tk := tokensF x (x.length + 1 - s.at_) s
theorem toksL_step (x : List UInt8) (s : Lx) (hs : s.at_ ≤ x.length) : toksL x s = if (nextL x s).1.kd = 6 then [(nextL x s).1] else (nextL x s).1 :: toksL x (goL x s) := by
  have e : toksL x s = tokensF x (x.length - s.at_ + 1) s := by unfold toksL; rw [show x.length + 1 - s.at_ = x.length - s.at_ + 1 by omega]
  rw [e]
  conv => lhs; unfold tokensF
  have he := goL_at x s
  rcases nextL_goes x s hs with ⟨h1, _, _⟩ | ⟨h1, h2, h3, _⟩
  · rw [if_pos (by rw [h1]; rfl), if_pos (by rw [h1]; rfl)]
  · rw [if_neg h1, if_neg h1]
    congr 1
    unfold toksL
    exact tokensF_more x (x.length - s.at_) (x.length + 1 - (goL x s).at_) (goL x s) (by omega) (by omega) (by omega)
theorem tokensL_toks (x : List UInt8) : tokensL x = toksL x startL := rfl
theorem toksL_len (x : List UInt8) : ∀ (d : Nat) (s : Lx), x.length - s.at_ = d → s.at_ ≤ x.length → (toksL x s).length ≤ x.length - s.at_ + 1 := fun d => by
  induction d using Nat.strongRecOn with
  | _ d ih =>
    intro s hd hs
    rw [toksL_step x s hs]
    have he := goL_at x s
    rcases nextL_goes x s hs with ⟨h1, _, _⟩ | ⟨h1, h2, h3, _⟩
    · rw [if_pos (by rw [h1]; rfl)]; simp
    · rw [if_neg h1, List.length_cons]
      have := ih (x.length - (goL x s).at_) (by omega) (goL x s) rfl (by omega)
      omega
end Go.Proofs.YtdjeajbinpgpiaaGreat
