/- ref.Read. -/
import Derived.Test.YtdjeajbinpgpiaaPl
import Derived.Test.YtdjeajbinpgpiaaNumP
import Derived.Test.YtdjeajbinpgpiaaNamed
namespace Go.Proofs.Ytdjeajbinpgpiaa
open Go.RowKit

def valR (r : List UInt8 × Int) : Value := .tuple #[.string (S r.1), .int .i64 r.2]
theorem ret_read {a : ByteArray} {b : Int} {r : List UInt8 × Int} (h : r = (B a, b)) : Ending.returned (.tuple #[.string a, .int .i64 b]) = .returned (valR r) := by rw [h]; unfold valR; rw [S_B]
theorem head_at {s : ByteArray} {k : Nat} (h : k < s.size) : ((B s).drop k).head? = some s[k] := by rw [drop_at s k h]; rfl
theorem foldK (s : ByteArray) (k : Nat) (sub : ByteArray) (w : World) (hs : s.size ≤ 65536) (hk : k ≤ s.size) (ht : sub.size ≤ 65536) :
    Calls Try.prog 39 #[.string s, .int .i64 (k : Int), .string sub] w fun e w' => e = .returned (.bool (foldL (B s) (B sub) k)) ∧ Below w.heap.size w w' := by
  have := fold_any s sub (k : Int) w (by omega) (by omega)
  rw [clampN_nat k s.size hk] at this
  exact this
theorem fold_fits {l sub : List UInt8} {k : Nat} (hk : k ≤ l.length) (h : foldL l sub k = true) : k + sub.length ≤ l.length := by
  rw [fold_drop] at h
  have := fold_starts h
  rw [List.length_drop] at this; omega
theorem starts_fits {l sub : List UInt8} {k : Nat} (hk : k ≤ l.length) (h : startsL l sub k = true) : k + sub.length ≤ l.length := by
  rw [starts_drop] at h
  have := starts_len0 h
  rw [List.length_drop] at this; omega
theorem numP_none {l : List UInt8} {k base : Nat} (h : stopL (digB base) l k = k) : numP l k base = .tuple #[.string ⟨#[]⟩, .int .i64 0, .bool false] := by unfold numP; rw [if_pos h]
theorem numP_some {l : List UInt8} {k base e : Nat} (h : stopL (digB base) l k = e) (hne : e ≠ k) : numP l k base = .tuple #[.string (S (numberS (numL base (pieceL l k e)))), .int .i64 ((e + (if startsL l [59] e = true then 1 else 0) : Nat) : Int), .bool true] := by
  unfold numP
  rw [h, if_neg hne, semi_at]
  simp only [decide_eq_true_eq]

section
variable (s : ByteArray) (w : World) (attr : Bool) (hs : s.size ≤ 65536)
include hs
/-- No ampersand stands there. -/
theorem read_no (at_ : Int) (h : at_ < 0 ∨ (s.size : Int) ≤ at_ ∨ ∃ k : Nat, ∃ h : k < s.size, at_ = k ∧ s[k] ≠ 38) :
    Calls Try.prog 44 #[.string s, .int .i64 at_, .bool attr] w fun e w' => e = .returned (valR (readR (B s) at_ attr)) ∧ w = w' := by
  have HR : Hid (readR (B s) at_ attr = ([], at_)) := readR_no attr (B s) at_ (by
    rcases h with h | h | ⟨k, hk, rfl, hne⟩
    · exact .inl h
    · exact .inr (.inl (by rw [← size_B]; exact h))
    · exact .inr (.inr ⟨by omega, s[k], by rw [Int.toNat_natCast]; exact B_at s k hk, hne⟩))
  rcases h with h | h | ⟨k, hk, rfl, hne⟩
  · go_enter Try.func44, Try.ntmps44
    go_wp2_with fail
    go_ret2
    exact ⟨ret_read HR.out, rfl⟩
  · have h0 : 0 ≤ at_ := by omega
    go_enter Try.func44, Try.ntmps44
    go_wp2_with fail
    go_ret2
    exact ⟨ret_read HR.out, rfl⟩
  · have hne' : ((s[k].toNat : Int) != 38) = true := by
      rw [bne_iff_ne]; intro e; exact hne (UInt8.toNat_inj.1 (by show s[k].toNat = 38; omega))
    clear hne
    go_enter Try.func44, Try.ntmps44
    go_wp2_with fail
    go_ret2
    exact ⟨ret_read HR.out, rfl⟩
set_option maxHeartbeats 2000000 in
theorem read_hex (k : Nat) (hk : k < s.size) (h38 : s[k] = 38) (hf : foldL (B s) [38, 35, 120] k = true) :
    Calls Try.prog 44 #[.string s, .int .i64 (k : Int), .bool attr] w fun e w' => e = .returned (valR (readR (B s) (k : Int) attr)) ∧ Below w.heap.size w w' := by
  have e0 : ((s[k].toNat : Int) != 38) = false := by rw [h38]; rfl
  have hr := readR_at attr (B s) k (by rw [head_at hk, h38])
  have h3 := fold_fits (by rw [← size_B]; omega) hf
  rw [← size_B] at h3
  have h3 : k + 3 ≤ s.size := h3
  rw [refS_hex hf] at hr
  have HF := Lib.hid (foldK s k ⟨#[38, 35, 120]⟩ w hs (by omega) (by decide))
  rw [show B ⟨#[38, 35, 120]⟩ = [38, 35, 120] from rfl, hf] at HF
  have HN := Lib.hid (fun w => refnumber_any s (k + 3) 16 w hs h3 (by omega) (by omega))
  rw [show ((k + 3 : Nat) : Int) = (k : Int) + 3 by omega, show ((16 : Nat) : Int) = 16 from rfl] at HN
  by_cases hst : stopL (digB 16) (B s) (k + 3) = k + 3
  · rw [num_none hst] at hr
    have HR := Lib.hid hr
    rw [numP_none hst] at HN
    clear hr hst h38 hf
    go_enter Try.func44, Try.ntmps44
    go_wp2_with fail
    refine HF.out.mono ?_
    rintro e w1 ⟨rfl, b1⟩
    have HB1 := Lib.hid b1
    clear b1
    go_wp2_with fail
    refine (HN.out _).mono ?_
    rintro e w2 ⟨rfl, b2⟩
    have HB2 := Lib.hid (below_both HB1.out b2)
    clear b2
    go_wp2_with fail
    go_ret2
    exact ⟨ret_read HR.out, HB2.out⟩
  · obtain ⟨n, hn, hkn⟩ := num_some (pre := 3) (base := 16) (l := B s) (k := k) rfl hst
    rw [hn, hkn] at hr
    have HR := Lib.hid hr
    rw [numP_some rfl hst] at HN
    clear hr hst h38 hf hn hkn
    generalize numberS (numL 16 (pieceL (B s) (k + 3) (stopL (digB 16) (B s) (k + 3)))) = x at *
    generalize (stopL (digB 16) (B s) (k + 3) + if startsL (B s) [59] (stopL (digB 16) (B s) (k + 3)) = true then 1 else 0) = y at *
    go_enter Try.func44, Try.ntmps44
    go_wp2_with fail
    refine HF.out.mono ?_
    rintro e w1 ⟨rfl, b1⟩
    have HB1 := Lib.hid b1
    clear b1
    go_wp2_with fail
    refine (HN.out _).mono ?_
    rintro e w2 ⟨rfl, b2⟩
    have HB2 := Lib.hid (below_both HB1.out b2)
    clear b2
    go_wp2_with fail
    go_ret2
    exact ⟨ret_read HR.out, HB2.out⟩
set_option maxHeartbeats 2000000 in
theorem read_ten (k : Nat) (hk : k < s.size) (h38 : s[k] = 38) (hf : foldL (B s) [38, 35, 120] k = false) (hf2 : startsL (B s) [38, 35] k = true) :
    Calls Try.prog 44 #[.string s, .int .i64 (k : Int), .bool attr] w fun e w' => e = .returned (valR (readR (B s) (k : Int) attr)) ∧ Below w.heap.size w w' := by
  have e0 : ((s[k].toNat : Int) != 38) = false := by rw [h38]; rfl
  have hr := readR_at attr (B s) k (by rw [head_at hk, h38])
  have h3 := starts_fits (by rw [← size_B]; omega) hf2
  rw [← size_B] at h3
  have h3 : k + 2 ≤ s.size := h3
  rw [refS_ten hf hf2] at hr
  have HF := Lib.hid (foldK s k ⟨#[38, 35, 120]⟩ w hs (by omega) (by decide))
  rw [show B ⟨#[38, 35, 120]⟩ = [38, 35, 120] from rfl, hf] at HF
  have HS := Lib.hid (fun w => startsK s k ⟨#[38, 35]⟩ w hs (by omega))
  rw [show B ⟨#[38, 35]⟩ = [38, 35] from rfl, hf2] at HS
  have HN := Lib.hid (fun w => refnumber_any s (k + 2) 10 w hs h3 (by omega) (by omega))
  rw [show ((k + 2 : Nat) : Int) = (k : Int) + 2 by omega, show ((10 : Nat) : Int) = 10 from rfl] at HN
  by_cases hst : stopL (digB 10) (B s) (k + 2) = k + 2
  · rw [num_none hst] at hr
    have HR := Lib.hid hr
    rw [numP_none hst] at HN
    clear hr hst h38 hf hf2
    go_enter Try.func44, Try.ntmps44
    go_wp2_with fail
    refine HF.out.mono ?_
    rintro e w1 ⟨rfl, b1⟩
    have HB1 := Lib.hid b1
    clear b1
    go_wp2_with fail
    refine (HS.out _).mono ?_
    rintro e w1b ⟨rfl, rfl⟩
    go_wp2_with fail
    refine (HN.out _).mono ?_
    rintro e w2 ⟨rfl, b2⟩
    have HB2 := Lib.hid (below_both HB1.out b2)
    clear b2
    go_wp2_with fail
    go_ret2
    exact ⟨ret_read HR.out, HB2.out⟩
  · obtain ⟨n, hn, hkn⟩ := num_some (pre := 2) (base := 10) (l := B s) (k := k) rfl hst
    rw [hn, hkn] at hr
    have HR := Lib.hid hr
    rw [numP_some rfl hst] at HN
    clear hr hst h38 hf hf2 hn hkn
    generalize numberS (numL 10 (pieceL (B s) (k + 2) (stopL (digB 10) (B s) (k + 2)))) = x at *
    generalize (stopL (digB 10) (B s) (k + 2) + if startsL (B s) [59] (stopL (digB 10) (B s) (k + 2)) = true then 1 else 0) = y at *
    go_enter Try.func44, Try.ntmps44
    go_wp2_with fail
    refine HF.out.mono ?_
    rintro e w1 ⟨rfl, b1⟩
    have HB1 := Lib.hid b1
    clear b1
    go_wp2_with fail
    refine (HS.out _).mono ?_
    rintro e w1b ⟨rfl, rfl⟩
    go_wp2_with fail
    refine (HN.out _).mono ?_
    rintro e w2 ⟨rfl, b2⟩
    have HB2 := Lib.hid (below_both HB1.out b2)
    clear b2
    go_wp2_with fail
    go_ret2
    exact ⟨ret_read HR.out, HB2.out⟩
set_option maxHeartbeats 4000000 in
theorem read_name (k : Nat) (hk : k < s.size) (h38 : s[k] = 38) (hf : foldL (B s) [38, 35, 120] k = false) (hf2 : startsL (B s) [38, 35] k = false) :
    Calls Try.prog 44 #[.string s, .int .i64 (k : Int), .bool attr] w fun e w' => e = .returned (valR (readR (B s) (k : Int) attr)) ∧ Below w.heap.size w w' := by
  have e0 : ((s[k].toNat : Int) != 38) = false := by rw [h38]; rfl
  have hr := readR_at attr (B s) k (by rw [head_at hk, h38])
  rw [refS_name hf hf2] at hr
  have HF := Lib.hid (foldK s k ⟨#[38, 35, 120]⟩ w hs (by omega) (by decide))
  rw [show B ⟨#[38, 35, 120]⟩ = [38, 35, 120] from rfl, hf] at HF
  have HS := Lib.hid (fun w => startsK s k ⟨#[38, 35]⟩ w hs (by omega))
  rw [show B ⟨#[38, 35]⟩ = [38, 35] from rfl, hf2] at HS
  have HN := Lib.hid (fun w => named_any (s.extract (k + 1) s.size) w)
  rw [B_drop] at HN
  have hnz := named_size ((B s).drop (k + 1))
  rw [List.length_drop, ← size_B] at hnz
  generalize hnr : namedR ((B s).drop (k + 1)) = r at *
  clear h38 hf hf2
  have hv : ∃ b, Hid (b = (attr && (B s)[k + r.1.size]? != some 59 && ((B s)[k + 1 + r.1.size]?).any wordB)) := ⟨_, rfl⟩
  obtain ⟨b, HV⟩ := hv
  by_cases hz : r.1.size = 0
  · rw [name_none hnr hz] at hr
    have HR := Lib.hid hr
    have d0 : ((r.1.size : Int) == 0) = true := by rw [hz]; rfl
    clear hr hz hnr
    obtain ⟨r1, r2⟩ := r
    go_enter Try.func44, Try.ntmps44
    go_wp2_with fail
    refine HF.out.mono ?_
    rintro e w1 ⟨rfl, b1⟩
    have HB1 := Lib.hid b1
    clear b1
    go_wp2_with fail
    refine (HS.out _).mono ?_
    rintro e w1b ⟨rfl, rfl⟩
    go_wp2_with fail
    refine (HN.out _).mono ?_
    rintro e w2 ⟨rfl, b2⟩
    have HB2 := Lib.hid (below_both HB1.out b2)
    clear b2
    go_wp2_with fail
    go_ret2
    exact ⟨ret_read HR.out, HB2.out⟩
  · have d0 : ((r.1.size : Int) == 0) = false := by rw [beq_eq_false_iff_ne]; omega
    have hkn : k + r.1.size < s.size := by omega
    have hi1 := B_at s (k + r.1.size) hkn
    have hle : k + 1 + r.1.size ≤ s.size := by omega
    have hsz := hnz.2.1
    clear hnz
    cases attr with
    | false =>
      have HR : Hid (readR (B s) (k : Int) false = (B r.2, ((k + (1 + r.1.size) : Nat) : Int))) := hr.trans (by rw [name_plain hnr hz (by simp)])
      clear hr hnr hi1 HV hz
      obtain ⟨r1, r2⟩ := r
      simp only at hkn hle hsz
      go_enter Try.func44, Try.ntmps44
      go_wp2_with fail
      refine HF.out.mono ?_
      rintro e w1 ⟨rfl, b1⟩
      have HB1 := Lib.hid b1
      clear b1
      go_wp2_with fail
      refine (HS.out _).mono ?_
      rintro e w1b ⟨rfl, rfl⟩
      go_wp2_with fail
      refine (HN.out _).mono ?_
      rintro e w2 ⟨rfl, b2⟩
      have HB2 := Lib.hid (below_both HB1.out b2)
      clear b2
      go_wp2_with fail
      go_ret2
      exact ⟨ret_read (HR.out.trans (by simp only [Prod.mk.injEq, true_and]; omega)), HB2.out⟩
    | true =>
      by_cases h59 : s[k + r.1.size] = 59
      · have HR : Hid (readR (B s) (k : Int) true = (B r.2, ((k + (1 + r.1.size) : Nat) : Int))) := hr.trans (by rw [name_plain hnr hz (by rw [hi1, h59]; rfl)])
        have e1 : ((s[k + r.1.size].toNat : Int) != 59) = false := by rw [h59]; rfl
        clear hr hnr hi1 HV hz h59
        obtain ⟨r1, r2⟩ := r
        simp only at hkn hle hsz e1
        go_enter Try.func44, Try.ntmps44
        go_wp2_with fail
        refine HF.out.mono ?_
        rintro e w1 ⟨rfl, b1⟩
        have HB1 := Lib.hid b1
        clear b1
        go_wp2_with fail
        refine (HS.out _).mono ?_
        rintro e w1b ⟨rfl, rfl⟩
        go_wp2_with fail
        refine (HN.out _).mono ?_
        rintro e w2 ⟨rfl, b2⟩
        have HB2 := Lib.hid (below_both HB1.out b2)
        clear b2
        go_wp2_with fail
        go_ret2
        exact ⟨ret_read (HR.out.trans (by simp only [Prod.mk.injEq, true_and]; omega)), HB2.out⟩
      · have e1 : ((s[k + r.1.size].toNat : Int) != 59) = true := by
          rw [bne_iff_ne]; intro e; exact h59 (UInt8.toNat_inj.1 (by show _ = 59; omega))
        have h59' : (some s[k + r.1.size] != some (59 : UInt8)) = true := by rw [bne_iff_ne]; intro e; exact h59 (Option.some.inj e)
        clear h59
        by_cases hlt : k + 1 + r.1.size < s.size
        · have hi2 := B_at s (k + 1 + r.1.size) hlt
          have hlt2 : k + 1 + r.1.size < s.size := hlt
          have dlt : decide ((k : Int) + 1 + (r.1.size : Int) < (s.size : Int)) = true := decide_eq_true (by omega)
          have hcond : (true && (B s)[k + r.1.size]? != some 59 && ((B s)[k + 1 + r.1.size]?).any wordB) = wordB s[k + 1 + r.1.size] := by
            rw [hi1, h59', hi2]; simp
          have hwb : wordB s[k + 1 + r.1.size] = (s[k + 1 + r.1.size] == 61 || letterB s[k + 1 + r.1.size] || digitB s[k + 1 + r.1.size]) := rfl
          rw [hwb] at hcond
          have hwp := wrap_byte s[k + 1 + r.1.size]
          by_cases h61 : s[k + 1 + r.1.size] = 61
          · have e2 : (wrap32 (s[k + 1 + r.1.size].toNat : Int) == 61) = true := by rw [hwp, h61]; rfl
            rw [h61] at hcond
            have HR : Hid (readR (B s) (k : Int) true = (pieceL (B s) k (k + 1 + r.1.size), ((k + (1 + r.1.size) : Nat) : Int))) := hr.trans (by rw [name_left hnr hz (hcond.trans (by simp))])
            clear hr hnr hi1 hi2 HV hz h61 hcond hwb h59' hwp
            obtain ⟨r1, r2⟩ := r
            simp only at *
            go_enter Try.func44, Try.ntmps44
            go_wp2_with fail
            refine HF.out.mono ?_
            rintro e w1 ⟨rfl, b1⟩
            have HB1 := Lib.hid b1
            clear b1
            go_wp2_with fail
            refine (HS.out _).mono ?_
            rintro e w1b ⟨rfl, rfl⟩
            go_wp2_with fail
            refine (HN.out _).mono ?_
            rintro e w2 ⟨rfl, b2⟩
            have HB2 := Lib.hid (below_both HB1.out b2)
            clear b2
            go_wp2_with fail
            refine (clone_any _ _ (by have := size_extract_le s k (k + 1 + r1.size); omega)).mono ?_
            rintro e w5 ⟨rfl, b5⟩
            have HB5 := Lib.hid (below_then HB2.out HB2.out.size b5)
            clear b5
            go_wp2_with fail
            go_ret2
            exact ⟨ret_read (HR.out.trans (by rw [S_piece]; simp only [B_S, Prod.mk.injEq, true_and]; omega)), HB5.out⟩

          · have e2 : (wrap32 (s[k + 1 + r.1.size].toNat : Int) == 61) = false := by
              rw [hwp, beq_eq_false_iff_ne]; intro e; exact h61 (UInt8.toNat_inj.1 (by show _ = 61; omega))
            rw [show (s[k + 1 + r.1.size] == 61) = false by rw [beq_eq_false_iff_ne]; exact h61] at hcond
            have HLE := Lib.hid (fun w => letter_rune s[k + 1 + r.1.size] w)
            have HDI := Lib.hid (fun w => digit_rune s[k + 1 + r.1.size] w)
            clear h61
            cases hl : letterB s[k + 1 + r.1.size] with
            | true =>
              rw [hl] at hcond HLE
              have HR : Hid (readR (B s) (k : Int) true = (pieceL (B s) k (k + 1 + r.1.size), ((k + (1 + r.1.size) : Nat) : Int))) := hr.trans (by rw [name_left hnr hz (hcond.trans (by simp))])
              clear hr hnr hi1 hi2 HV hz hcond hwb h59' hl HDI hwp
              obtain ⟨r1, r2⟩ := r
              simp only at *
              go_enter Try.func44, Try.ntmps44
              go_wp2_with fail
              refine HF.out.mono ?_
              rintro e w1 ⟨rfl, b1⟩
              have HB1 := Lib.hid b1
              clear b1
              go_wp2_with fail
              refine (HS.out _).mono ?_
              rintro e w1b ⟨rfl, rfl⟩
              go_wp2_with fail
              refine (HN.out _).mono ?_
              rintro e w2 ⟨rfl, b2⟩
              have HB2 := Lib.hid (below_both HB1.out b2)
              clear b2
              go_wp2_with fail
              refine (HLE.out _).mono ?_
              rintro e w3 ⟨rfl, rfl⟩
              go_wp2_with fail
              refine (clone_any _ _ (by have := size_extract_le s k (k + 1 + r1.size); omega)).mono ?_
              rintro e w5 ⟨rfl, b5⟩
              have HB5 := Lib.hid (below_then HB2.out HB2.out.size b5)
              clear b5
              go_wp2_with fail
              go_ret2
              exact ⟨ret_read (HR.out.trans (by rw [S_piece]; simp only [B_S, Prod.mk.injEq, true_and]; omega)), HB5.out⟩

            | false =>
              rw [hl] at hcond HLE
              cases hd : digitB s[k + 1 + r.1.size] with
              | true =>
                rw [hd] at hcond HDI
                have HR : Hid (readR (B s) (k : Int) true = (pieceL (B s) k (k + 1 + r.1.size), ((k + (1 + r.1.size) : Nat) : Int))) := hr.trans (by rw [name_left hnr hz (hcond.trans (by simp))])
                clear hr hnr hi1 hi2 HV hz hcond hwb h59' hl hd hwp
                obtain ⟨r1, r2⟩ := r
                simp only at *
                go_enter Try.func44, Try.ntmps44
                go_wp2_with fail
                refine HF.out.mono ?_
                rintro e w1 ⟨rfl, b1⟩
                have HB1 := Lib.hid b1
                clear b1
                go_wp2_with fail
                refine (HS.out _).mono ?_
                rintro e w1b ⟨rfl, rfl⟩
                go_wp2_with fail
                refine (HN.out _).mono ?_
                rintro e w2 ⟨rfl, b2⟩
                have HB2 := Lib.hid (below_both HB1.out b2)
                clear b2
                go_wp2_with fail
                refine (HLE.out _).mono ?_
                rintro e w3 ⟨rfl, rfl⟩
                go_wp2_with fail
                refine (HDI.out _).mono ?_
                rintro e w4 ⟨rfl, rfl⟩
                go_wp2_with fail
                refine (clone_any _ _ (by have := size_extract_le s k (k + 1 + r1.size); omega)).mono ?_
                rintro e w5 ⟨rfl, b5⟩
                have HB5 := Lib.hid (below_then HB2.out HB2.out.size b5)
                clear b5
                go_wp2_with fail
                go_ret2
                exact ⟨ret_read (HR.out.trans (by rw [S_piece]; simp only [B_S, Prod.mk.injEq, true_and]; omega)), HB5.out⟩

              | false =>
                rw [hd] at hcond HDI
                have HR : Hid (readR (B s) (k : Int) true = (B r.2, ((k + (1 + r.1.size) : Nat) : Int))) := hr.trans (by rw [name_plain hnr hz (hcond.trans (by simp))])
                clear hr hnr hi1 hi2 HV hz hcond hwb h59' hl hd hwp
                obtain ⟨r1, r2⟩ := r
                simp only at *
                go_enter Try.func44, Try.ntmps44
                go_wp2_with fail
                refine HF.out.mono ?_
                rintro e w1 ⟨rfl, b1⟩
                have HB1 := Lib.hid b1
                clear b1
                go_wp2_with fail
                refine (HS.out _).mono ?_
                rintro e w1b ⟨rfl, rfl⟩
                go_wp2_with fail
                refine (HN.out _).mono ?_
                rintro e w2 ⟨rfl, b2⟩
                have HB2 := Lib.hid (below_both HB1.out b2)
                clear b2
                go_wp2_with fail
                refine (HLE.out _).mono ?_
                rintro e w3 ⟨rfl, rfl⟩
                go_wp2_with fail
                refine (HDI.out _).mono ?_
                rintro e w4 ⟨rfl, rfl⟩
                go_wp2_with fail
                go_ret2
                exact ⟨ret_read (HR.out.trans (by simp only [Prod.mk.injEq, true_and]; omega)), HB2.out⟩

        · have hcond : (true && (B s)[k + r.1.size]? != some 59 && ((B s)[k + 1 + r.1.size]?).any wordB) = false := by
            rw [show (B s)[k + 1 + r.1.size]? = none by rw [List.getElem?_eq_none]; rw [← size_B]; omega]; simp
          have HR : Hid (readR (B s) (k : Int) true = (B r.2, ((k + (1 + r.1.size) : Nat) : Int))) := hr.trans (by rw [name_plain hnr hz (hcond)])
          clear hr hnr hi1 HV hz hcond h59'
          obtain ⟨r1, r2⟩ := r
          simp only at *
          go_enter Try.func44, Try.ntmps44
          go_wp2_with fail
          refine HF.out.mono ?_
          rintro e w1 ⟨rfl, b1⟩
          have HB1 := Lib.hid b1
          clear b1
          go_wp2_with fail
          refine (HS.out _).mono ?_
          rintro e w1b ⟨rfl, rfl⟩
          go_wp2_with fail
          refine (HN.out _).mono ?_
          rintro e w2 ⟨rfl, b2⟩
          have HB2 := Lib.hid (below_both HB1.out b2)
          clear b2
          go_wp2_with fail
          go_ret2
          exact ⟨ret_read (HR.out.trans (by simp only [Prod.mk.injEq, true_and]; omega)), HB2.out⟩

theorem read_any (at_ : Int) :
    Calls Try.prog 44 #[.string s, .int .i64 at_, .bool attr] w fun e w' => e = .returned (valR (readR (B s) at_ attr)) ∧ Below w.heap.size w w' := by
  by_cases h0 : at_ < 0
  · exact (read_no s w attr hs at_ (.inl h0)).mono fun _ _ ⟨h, h'⟩ => ⟨h, h' ▸ Below.refl _ _⟩
  · obtain ⟨k, rfl⟩ : ∃ k : Nat, at_ = (k : Int) := ⟨at_.toNat, by omega⟩
    by_cases hk : k < s.size
    · by_cases h38 : s[k] = 38
      · cases hf : foldL (B s) [38, 35, 120] k with
        | true => exact read_hex s w attr hs k hk h38 hf
        | false =>
          cases hf2 : startsL (B s) [38, 35] k with
          | true => exact read_ten s w attr hs k hk h38 hf hf2
          | false => exact read_name s w attr hs k hk h38 hf hf2
      · exact (read_no s w attr hs _ (.inr (.inr ⟨k, hk, rfl, h38⟩))).mono fun _ _ ⟨h, h'⟩ => ⟨h, h' ▸ Below.refl _ _⟩
    · exact (read_no s w attr hs _ (.inr (.inl (by omega)))).mono fun _ _ ⟨h, h'⟩ => ⟨h, h' ▸ Below.refl _ _⟩
end
end Go.Proofs.Ytdjeajbinpgpiaa
