/- Joined texts: MarkRead, LexP. -/
import Derived.Test.YtdjeajbinpgpiaaGreatJLexerTells16
import Derived.Test.YtdjeajbinpgpiaaGreatJLexerTells10
import Derived.Test.YtdjeajbinpgpiaaGreatJLexerTells15
import Derived.Test.YtdjeajbinpgpiaaGreatJLexerTells12
import Derived.Test.YtdjeajbinpgpiaaGreatJLexerTells1
import Derived.BigQuiet
import Derived.Deep.RegionHeld3
import Derived.Deep.CutBlock
import Derived.Deep.DeepCutAuto
namespace Go.Proofs.YtdjeajbinpgpiaaGreat
open Go.RowKit

theorem starts_len {l sub : List UInt8} {k : Nat} (hk : k ≤ l.length) (h : startsL l sub k = true) : k + sub.length ≤ l.length := by
  rw [startsL_occ] at h
  unfold Lib.occAt at h
  rw [List.isPrefixOf_iff_prefix] at h
  have := h.length_le
  rw [List.length_drop] at this
  omega
theorem fold_len {l sub : List UInt8} {k : Nat} (hk : k ≤ l.length) (h : foldL l sub k = true) : k + sub.length ≤ l.length := by
  unfold foldL at h
  have := starts_len (l := lowL l) (sub := lowL sub) (k := k) (by rw [lowL_length]; exact hk) h
  rwa [lowL_length, lowL_length] at this

set_option maxHeartbeats 4000000 in
set_option maxRecDepth 100000 in
theorem mread_any (s : ByteArray) (at_ : Int) (fo : Bool) (w : World) (hs : s.size ≤ 65536) (hw : Lax w) :
    Calls Tryz.prog 42 #[.string s, .int .i64 at_, .bool fo] w fun e w' => e = .returned (valM (readM (B s) at_ fo)) ∧ Below w.heap.size w w' := by
  have hb0 : Below w.heap.size w (w.alloc (.cells #[.int .i64 0, .string ⟨#[]⟩, .slice none 0 0, .bool false, .string ⟨#[]⟩] 44)) := (Below.refl _ _).alloc (Nat.le_refl _) _
  have hZ := Blk.new w 44 #[.int .i64 0, .string ⟨#[]⟩, .slice none 0 0, .bool false, .string ⟨#[]⟩] (0, 0)
  obtain ⟨w0, hw0⟩ : ∃ w0, w0 = w.alloc (.cells #[.int .i64 0, .string ⟨#[]⟩, .slice none 0 0, .bool false, .string ⟨#[]⟩] 44) := ⟨_, rfl⟩
  rw [← hw0] at hb0 hZ
  have HZ := Lib.hid hZ
  have HB0 := Lib.hid hb0
  have HW := Lib.hid (hw.below hb0)
  have HSZ := Lib.hid hs
  obtain ⟨z0, z1, z2, z3, z4, f0, f1, f2, f3, f4⟩ := var_tok hZ
  have hwh := hw0
  clear hb0 hZ hw
  by_cases hout : at_ < 0 ∨ (s.size : Int) ≤ at_
  · have hrm : Hid (readM (B s) at_ fo = (noTm, at_, false)) := by show _ = _; unfold readM; rw [if_pos (by rw [← size_B]; exact hout)]
    have hd : decide (at_ < 0) = true ∨ (decide (at_ < 0) = false ∧ decide (at_ ≥ (s.size : Int)) = true) := by
      by_cases h1 : at_ < 0
      · exact .inl (decide_eq_true h1)
      · exact .inr ⟨decide_eq_false h1, decide_eq_true (by omega)⟩
    clear hout hs hwh
    rcases hd with d0 | ⟨d0, d1⟩
    all_goals
      go_enter Tryz.func42, Tryz.ntmps42
      go_wp2_with fail
      refine bodyPost_ret (v := .tuple #[.agg #[.int .i64 0, .string ⟨#[]⟩, .slice none 0 0, .bool false, .string ⟨#[]⟩], .int .i64 at_, .bool false]) (by simp [results, Tryz.results42, go_sem]) rfl ⟨ret_mark ?_, hw0 ▸ HB0.out⟩
      rw [hrm.out]
      simp [valM, tkM, noTm, S_nil]
  · obtain ⟨k, rfl⟩ := Int.eq_ofNat_of_zero_le (show 0 ≤ at_ by omega)
    have hk : k < s.size := by omega
    have hkl : k ≤ (B s).length := by rw [← size_B]; omega
    have d0 : decide ((k : Int) < 0) = false := decide_eq_false (by omega)
    have d1 : decide ((k : Int) ≥ (s.size : Int)) = false := decide_eq_false (by omega)
    have hrm : readM (B s) (k : Int) fo = if startsL (B s) beginA k = true then commentM (B s) (k + 4)
        else if foldL (B s) beginD k = true then doctypeM (B s) (k + 9)
        else if (fo && startsL (B s) beginC k) = true then dataM (B s) (k + 9)
        else if startsL (B s) [60, 33] k = true then rubbishM (B s) (k + 2)
        else if startsL (B s) [60, 63] k = true then rubbishM (B s) (k + 1)
        else if startsL (B s) [60, 47, 62] k = true then (noTm, ((k + 3 : Nat) : Int), true)
        else if (startsL (B s) [60, 47] k && noLetterAt (B s) (k + 2)) = true then rubbishM (B s) (k + 2)
        else (noTm, (k : Int), false) := by
      unfold readM
      rw [if_neg (by rw [← size_B]; omega), Int.toNat_natCast]
    have HRM := Lib.hid hrm
    have HST := Lib.hid (fun (sub : ByteArray) (w : World) => startsN s k sub w hs (by omega))
    have HFO := Lib.hid (fun (w : World) => by
      have := fold_any s ⟨#[60, 33, 100, 111, 99, 116, 121, 112, 101]⟩ (k : Int) w (by omega) (by decide)
      rw [clampN_nat k s.size (by omega), show B ⟨#[60, 33, 100, 111, 99, 116, 121, 112, 101]⟩ = beginD from rfl] at this
      exact this)
    have HK := Lib.hid hk
    have HKL := Lib.hid hkl
    clear hout hrm hkl hs hwh
    obtain ⟨p1, hp1⟩ : ∃ b, startsL (B s) beginA k = b := ⟨_, rfl⟩
    obtain ⟨p2, hp2⟩ : ∃ b, foldL (B s) beginD k = b := ⟨_, rfl⟩
    obtain ⟨p3, hp3⟩ : ∃ b, startsL (B s) beginC k = b := ⟨_, rfl⟩
    obtain ⟨p4, hp4⟩ : ∃ b, startsL (B s) [60, 33] k = b := ⟨_, rfl⟩
    obtain ⟨p5, hp5⟩ : ∃ b, startsL (B s) [60, 63] k = b := ⟨_, rfl⟩
    obtain ⟨p6, hp6⟩ : ∃ b, startsL (B s) [60, 47, 62] k = b := ⟨_, rfl⟩
    obtain ⟨p7, hp7⟩ : ∃ b, startsL (B s) [60, 47] k = b := ⟨_, rfl⟩
    have H1 := Lib.hid (fun w => HST.out ⟨#[60, 33, 45, 45]⟩ w)
    have H3 := Lib.hid (fun w => HST.out ⟨#[60, 33, 91, 67, 68, 65, 84, 65, 91]⟩ w)
    have H4 := Lib.hid (fun w => HST.out ⟨#[60, 33]⟩ w)
    have H5 := Lib.hid (fun w => HST.out ⟨#[60, 63]⟩ w)
    have H6 := Lib.hid (fun w => HST.out ⟨#[60, 47, 62]⟩ w)
    have H7 := Lib.hid (fun w => HST.out ⟨#[60, 47]⟩ w)
    rw [show B ⟨#[60, 33, 45, 45]⟩ = beginA from rfl, hp1] at H1
    rw [show B ⟨#[60, 33, 91, 67, 68, 65, 84, 65, 91]⟩ = beginC from rfl, hp3] at H3
    rw [show B ⟨#[60, 33]⟩ = [60, 33] from rfl, hp4] at H4
    rw [show B ⟨#[60, 63]⟩ = [60, 63] from rfl, hp5] at H5
    rw [show B ⟨#[60, 47, 62]⟩ = [60, 47, 62] from rfl, hp6] at H6
    rw [show B ⟨#[60, 47]⟩ = [60, 47] from rfl, hp7] at H7
    rw [hp2] at HFO
    have L1 := Lib.hid (fun h : p1 = true => starts_len HKL.out (hp1.trans h))
    have L2 := Lib.hid (fun h : p2 = true => fold_len HKL.out (hp2.trans h))
    have L3 := Lib.hid (fun h : p3 = true => starts_len HKL.out (hp3.trans h))
    have L4 := Lib.hid (fun h : p4 = true => starts_len HKL.out (hp4.trans h))
    have L5 := Lib.hid (fun h : p5 = true => starts_len HKL.out (hp5.trans h))
    have L6 := Lib.hid (fun h : p6 = true => starts_len HKL.out (hp6.trans h))
    have L7 := Lib.hid (fun h : p7 = true => starts_len HKL.out (hp7.trans h))
    rw [hp1, hp2, hp3, hp4, hp5, hp6, hp7] at HRM
    rw [← size_B] at L1 L2 L3 L4 L5 L6 L7
    clear hp1 hp2 hp3 hp4 hp5 hp6 hp7
    go_enter Tryz.func42, Tryz.ntmps42
    go_wp2_with fail
    rw [show w.alloc (.cells #[.int .i64 0, .string ⟨#[]⟩, .slice none 0 0, .bool false, .string ⟨#[]⟩] 44) = w0 from hw0.symm]
    clear hw0
    refine (H1.out _).mono ?_
    rintro e w' ⟨rfl, rfl⟩
    cases p1
    rotate_left
    · have hl := L1.out rfl
      have hc := comment_any s (k + 4) w0 HSZ.out HW.out (show k + 4 ≤ s.size from hl)
      have hrm := HRM.out
      simp only [if_true] at hrm
      rw [show ((k + 4 : Nat) : Int) = (k : Int) + 4 by omega] at hc
      have s9 : IntKind.i64.wrap ((k : Int) + 4) = (k : Int) + 4 := IntWalk.i64_in _ (by have := HSZ.out; omega)
      have HR9 := Lib.hid hrm
      generalize commentM (B s) (k + 4) = r at *
      obtain ⟨⟨rk, rn, rt⟩, ri, rb⟩ := r
      have HC := Lib.hid hc
      clear hl hrm hc
      go_wp2_with fail
      refine HC.out.mono ?_
      rintro e w9 ⟨rfl, b9⟩
      obtain ⟨y0, y1, y2, y3, y4, g0, g1, g2, g3, g4⟩ := var_tok (HZ.out.keep b9)
      have HB9 := Lib.hid (below_then HB0.out HB0.out.size b9)
      clear b9
      simp only [valM, tkM]
      go_wp2_with fail
      refine bodyPost_ret (v := valM (⟨rk, rn, rt⟩, ri, rb)) (by simp [results, Tryz.results42, go_sem, y0, y1, y2, y3, y4, valM, tkM]) rfl ⟨by rw [HR9.out], set5_below HB9.out (Nat.le_refl _) _ _ _ _ _⟩
    · go_wp2_with fail
      refine (HFO.out _).mono ?_
      rintro e w2 ⟨rfl, b2⟩
      have HB2 := Lib.hid (below_then HB0.out HB0.out.size b2)
      have HZ2 := Lib.hid (HZ.out.keep b2)
      have HW2 := Lib.hid (HW.out.below b2)
      obtain ⟨z0, z1, z2, z3, z4, f0, f1, f2, f3, f4⟩ := var_tok (HZ.out.keep b2)
      clear b2
      cases p2
      rotate_left
      · have hl := L2.out rfl
        have hc := doctype_any s (k + 9) w2 HSZ.out HW2.out (show k + 9 ≤ s.size from hl)
        have hrm := HRM.out
        simp only [Bool.false_eq_true, if_false, if_true] at hrm
        rw [show ((k + 9 : Nat) : Int) = (k : Int) + 9 by omega] at hc
        have s9 : IntKind.i64.wrap ((k : Int) + 9) = (k : Int) + 9 := IntWalk.i64_in _ (by have := HSZ.out; omega)
        have HR9 := Lib.hid hrm
        generalize doctypeM (B s) (k + 9) = r at *
        obtain ⟨⟨rk, rn, rt⟩, ri, rb⟩ := r
        have HC := Lib.hid hc
        clear hl hrm hc
        go_wp2_with fail
        refine HC.out.mono ?_
        rintro e w9 ⟨rfl, b9⟩
        obtain ⟨y0, y1, y2, y3, y4, g0, g1, g2, g3, g4⟩ := var_tok (HZ2.out.keep b9)
        have HB9 := Lib.hid (below_then HB2.out HB2.out.size b9)
        clear b9
        simp only [valM, tkM]
        go_wp2_with fail
        refine bodyPost_ret (v := valM (⟨rk, rn, rt⟩, ri, rb)) (by simp [results, Tryz.results42, go_sem, y0, y1, y2, y3, y4, valM, tkM]) rfl ⟨by rw [HR9.out], set5_below HB9.out (Nat.le_refl _) _ _ _ _ _⟩
      · go_upto_region 7 with (fail)
        go_cut [41] (fun s41 wx => s41 = .bool (fo && p3) ∧ wx = w2)
        case first =>
          cases fo
          · go_wp2_with fail
            go_meet
            exact ⟨rfl, rfl⟩
          · go_wp2_with fail
            refine (H3.out _).mono ?_
            rintro e w' ⟨rfl, rfl⟩
            go_wp2_with fail
            go_meet
            exact ⟨rfl, rfl⟩
        case rest =>
        obtain ⟨rfl, rfl⟩ := hcut
        have L3f := Lib.hid (fun h : (fo && p3) = true => L3.out (by rw [Bool.and_eq_true] at h; exact h.2))
        generalize (fo && p3) = p3f at *
        cases p3f
        rotate_left
        · have hl := L3f.out rfl
          have hc := data_any s (k + 9) wc HSZ.out HW2.out (show k + 9 ≤ s.size from hl)
          have hrm := HRM.out
          simp only [Bool.false_eq_true, if_false, if_true] at hrm
          rw [show ((k + 9 : Nat) : Int) = (k : Int) + 9 by omega] at hc
          have s9 : IntKind.i64.wrap ((k : Int) + 9) = (k : Int) + 9 := IntWalk.i64_in _ (by have := HSZ.out; omega)
          have HR9 := Lib.hid hrm
          generalize dataM (B s) (k + 9) = r at *
          obtain ⟨⟨rk, rn, rt⟩, ri, rb⟩ := r
          have HC := Lib.hid hc
          clear hl hrm hc
          go_wp2_with fail
          refine HC.out.mono ?_
          rintro e w9 ⟨rfl, b9⟩
          obtain ⟨y0, y1, y2, y3, y4, g0, g1, g2, g3, g4⟩ := var_tok (HZ2.out.keep b9)
          have HB9 := Lib.hid (below_then HB2.out HB2.out.size b9)
          clear b9
          simp only [valM, tkM]
          go_wp2_with fail
          refine bodyPost_ret (v := valM (⟨rk, rn, rt⟩, ri, rb)) (by simp [results, Tryz.results42, go_sem, y0, y1, y2, y3, y4, valM, tkM]) rfl ⟨by rw [HR9.out], set5_below HB9.out (Nat.le_refl _) _ _ _ _ _⟩
        · go_wp2_with fail
          refine (H4.out _).mono ?_
          rintro e w' ⟨rfl, rfl⟩
          cases p4
          rotate_left
          · have hl := L4.out rfl
            have hc := rubbish_any s (k + 2) wc HSZ.out HW2.out (show k + 2 ≤ s.size from hl)
            have hrm := HRM.out
            simp only [Bool.false_eq_true, if_false, if_true] at hrm
            rw [show ((k + 2 : Nat) : Int) = (k : Int) + 2 by omega] at hc
            have s9 : IntKind.i64.wrap ((k : Int) + 2) = (k : Int) + 2 := IntWalk.i64_in _ (by have := HSZ.out; omega)
            have HR9 := Lib.hid hrm
            generalize rubbishM (B s) (k + 2) = r at *
            obtain ⟨⟨rk, rn, rt⟩, ri, rb⟩ := r
            have HC := Lib.hid hc
            clear hl hrm hc
            go_wp2_with fail
            refine HC.out.mono ?_
            rintro e w9 ⟨rfl, b9⟩
            obtain ⟨y0, y1, y2, y3, y4, g0, g1, g2, g3, g4⟩ := var_tok (HZ2.out.keep b9)
            have HB9 := Lib.hid (below_then HB2.out HB2.out.size b9)
            clear b9
            simp only [valM, tkM]
            go_wp2_with fail
            refine bodyPost_ret (v := valM (⟨rk, rn, rt⟩, ri, rb)) (by simp [results, Tryz.results42, go_sem, y0, y1, y2, y3, y4, valM, tkM]) rfl ⟨by rw [HR9.out], set5_below HB9.out (Nat.le_refl _) _ _ _ _ _⟩
          · go_wp2_with fail
            refine (H5.out _).mono ?_
            rintro e w' ⟨rfl, rfl⟩
            cases p5
            rotate_left
            · have hl := L5.out rfl
              have hc := rubbish_any s (k + 1) wc HSZ.out HW2.out (Nat.le_trans (by omega) (show k + 2 ≤ s.size from hl))
              have hrm := HRM.out
              simp only [Bool.false_eq_true, if_false, if_true] at hrm
              rw [show ((k + 1 : Nat) : Int) = (k : Int) + 1 by omega] at hc
              have s9 : IntKind.i64.wrap ((k : Int) + 1) = (k : Int) + 1 := IntWalk.i64_in _ (by have := HSZ.out; omega)
              have HR9 := Lib.hid hrm
              generalize rubbishM (B s) (k + 1) = r at *
              obtain ⟨⟨rk, rn, rt⟩, ri, rb⟩ := r
              have HC := Lib.hid hc
              clear hl hrm hc
              go_wp2_with fail
              refine HC.out.mono ?_
              rintro e w9 ⟨rfl, b9⟩
              obtain ⟨y0, y1, y2, y3, y4, g0, g1, g2, g3, g4⟩ := var_tok (HZ2.out.keep b9)
              have HB9 := Lib.hid (below_then HB2.out HB2.out.size b9)
              clear b9
              simp only [valM, tkM]
              go_wp2_with fail
              refine bodyPost_ret (v := valM (⟨rk, rn, rt⟩, ri, rb)) (by simp [results, Tryz.results42, go_sem, y0, y1, y2, y3, y4, valM, tkM]) rfl ⟨by rw [HR9.out], set5_below HB9.out (Nat.le_refl _) _ _ _ _ _⟩
            · go_wp2_with fail
              refine (H6.out _).mono ?_
              rintro e w' ⟨rfl, rfl⟩
              cases p6
              rotate_left
              · have hrm := HRM.out
                simp only [Bool.false_eq_true, if_false, if_true] at hrm
                have HR9 := Lib.hid hrm
                have s9 : IntKind.i64.wrap ((k : Int) + 3) = (k : Int) + 3 := IntWalk.i64_in _ (by have := HSZ.out; omega)
                clear hrm
                go_wp2_with fail
                refine bodyPost_ret (v := .tuple #[.agg #[.int .i64 0, .string ⟨#[]⟩, .slice none 0 0, .bool false, .string ⟨#[]⟩], .int .i64 ((k : Int) + 3), .bool true]) (by simp [results, Tryz.results42, go_sem, z0, z1, z2, z3, z4]) rfl ⟨ret_mark ?_, set5_below HB2.out (Nat.le_refl _) _ _ _ _ _⟩
                rw [HR9.out]
                simp [valM, tkM, noTm, S_nil]
              · have s9 : IntKind.i64.wrap ((k : Int) + 2) = (k : Int) + 2 := IntWalk.i64_in _ (by have := HSZ.out; omega)
                go_upto_region 15 with (fail)
                go_cut [84] (fun s84 wx => s84 = .bool (p7 && noLetterAt (B s) (k + 2)) ∧ wx = wc)
                case first =>
                  go_wp2_with fail
                  refine (H7.out _).mono ?_
                  rintro e w' ⟨rfl, rfl⟩
                  cases p7
                  · go_wp2_with fail
                    go_meet
                    exact ⟨rfl, rfl⟩
                  · have hl : k + 2 ≤ s.size := L7.out rfl
                    by_cases hlt : k + 2 < s.size
                    · have hna : Hid (noLetterAt (B s) (k + 2) = !letterB s[k + 2]) := by show _ = _; unfold noLetterAt; rw [B_at s (k + 2) hlt]
                      have d5 : decide ((k : Int) + 2 < (s.size : Int)) = true := decide_eq_true (by omega)
                      have s10 : ((k : Int) + 2).toNat = k + 2 := by omega
                      have s11 : (0 : Int) ≤ (k : Int) + 2 := by omega
                      have s12 : (k : Int) + 2 < (s.size : Int) := by omega
                      go_wp2_with fail
                      refine (letter_rune s[k + 2] _).mono ?_
                      rintro e w' ⟨rfl, rfl⟩
                      go_wp2_with fail
                      go_meet
                      exact ⟨by rw [hna.out]; rfl, rfl⟩
                    · have hna : Hid (noLetterAt (B s) (k + 2) = false) := by show _ = _; unfold noLetterAt; rw [List.getElem?_eq_none (by rw [← size_B]; omega)]
                      have d5 : decide ((k : Int) + 2 < (s.size : Int)) = false := decide_eq_false (by omega)
                      go_wp2_with fail
                      go_meet
                      exact ⟨by rw [hna.out]; rfl, rfl⟩
                case rest =>
                obtain ⟨rfl, rfl⟩ := hcut
                have L8 := Lib.hid (fun h : (p7 && noLetterAt (B s) (k + 2)) = true => L7.out (by rw [Bool.and_eq_true] at h; exact h.1))
                generalize (p7 && noLetterAt (B s) (k + 2)) = p8 at *
                cases p8
                rotate_left
                · have hl := L8.out rfl
                  have hc := rubbish_any s (k + 2) wc HSZ.out HW2.out (show k + 2 ≤ s.size from hl)
                  have hrm := HRM.out
                  simp only [Bool.false_eq_true, if_false, if_true] at hrm
                  rw [show ((k + 2 : Nat) : Int) = (k : Int) + 2 by omega] at hc
                  have s9 : IntKind.i64.wrap ((k : Int) + 2) = (k : Int) + 2 := IntWalk.i64_in _ (by have := HSZ.out; omega)
                  have HR9 := Lib.hid hrm
                  generalize rubbishM (B s) (k + 2) = r at *
                  obtain ⟨⟨rk, rn, rt⟩, ri, rb⟩ := r
                  have HC := Lib.hid hc
                  clear hl hrm hc
                  go_wp2_with fail
                  refine HC.out.mono ?_
                  rintro e w9 ⟨rfl, b9⟩
                  obtain ⟨y0, y1, y2, y3, y4, g0, g1, g2, g3, g4⟩ := var_tok (HZ2.out.keep b9)
                  have HB9 := Lib.hid (below_then HB2.out HB2.out.size b9)
                  clear b9
                  simp only [valM, tkM]
                  go_wp2_with fail
                  refine bodyPost_ret (v := valM (⟨rk, rn, rt⟩, ri, rb)) (by simp [results, Tryz.results42, go_sem, y0, y1, y2, y3, y4, valM, tkM]) rfl ⟨by rw [HR9.out], set5_below HB9.out (Nat.le_refl _) _ _ _ _ _⟩
                · have hrm := HRM.out
                  simp only [Bool.false_eq_true, if_false] at hrm
                  have HR9 := Lib.hid hrm
                  clear hrm
                  go_wp2_with fail
                  refine bodyPost_ret (v := .tuple #[.agg #[.int .i64 0, .string ⟨#[]⟩, .slice none 0 0, .bool false, .string ⟨#[]⟩], .int .i64 (k : Int), .bool false]) (by simp [results, Tryz.results42, go_sem, z0, z1, z2, z3, z4]) rfl ⟨ret_mark ?_, set5_below HB2.out (Nat.le_refl _) _ _ _ _ _⟩
                  rw [HR9.out]
                  simp [valM, tkM, noTm, S_nil]
end Go.Proofs.YtdjeajbinpgpiaaGreat

namespace Go.Proofs.YtdjeajbinpgpiaaGreat
open Go.RowKit Go.BigFrame

/-- The lexer where it lies. -/
def LexAt (w : World) (p : Nat) (x : ByteArray) (s : Lx) : Prop := Blk w p 54 #[.string x, .int .i64 (s.at_ : Int), .int .i64 s.mode, .bool s.fo, .string s.st] (0, 0)
theorem LexAt.cells {w : World} {p : Nat} {x : ByteArray} {s : Lx} (h : LexAt w p x s) :
    w.cell? ⟨p, 0, none⟩ = some (.string x) ∧ w.cell? ⟨p, 1, none⟩ = some (.int .i64 (s.at_ : Int)) ∧ w.cell? ⟨p, 2, none⟩ = some (.int .i64 s.mode) ∧ w.cell? ⟨p, 3, none⟩ = some (.bool s.fo) ∧ w.cell? ⟨p, 4, none⟩ = some (.string s.st) ∧
    w.frozen? ⟨p, 1, none⟩ = false ∧ w.frozen? ⟨p, 2, none⟩ = false ∧ w.frozen? ⟨p, 3, none⟩ = false ∧ w.frozen? ⟨p, 4, none⟩ = false :=
  ⟨Blk.cell h 0, Blk.cell h 1, Blk.cell h 2, Blk.cell h 3, Blk.cell h 4, Blk.frozen h 1 (.inr (Nat.zero_le _)), Blk.frozen h 2 (.inr (Nat.zero_le _)), Blk.frozen h 3 (.inr (Nat.zero_le _)), Blk.frozen h 4 (.inr (Nat.zero_le _))⟩
theorem LexAt.keep {w w1 : World} {p : Nat} {x : ByteArray} {s : Lx} (h : LexAt w p x s) (hb : Below w.heap.size w w1) : LexAt w1 p x s := Blk.keep h hb
theorem LexAt.goto {w : World} {p : Nat} {x : ByteArray} {s : Lx} (h : LexAt w p x s) (k : Nat) : LexAt (w.setCell ⟨p, 1, none⟩ (.int .i64 (k : Int))) p x { s with at_ := k } := Blk.set h 1 (.int .i64 (k : Int))
theorem LexAt.moded {w : World} {p : Nat} {x : ByteArray} {s : Lx} (h : LexAt w p x s) (m : Int) : LexAt (w.setCell ⟨p, 2, none⟩ (.int .i64 m)) p x { s with mode := m } := Blk.set h 2 (.int .i64 m)
theorem LexAt.foreign {w : World} {p : Nat} {x : ByteArray} {s : Lx} (h : LexAt w p x s) (f : Bool) : LexAt (w.setCell ⟨p, 3, none⟩ (.bool f)) p x { s with fo := f } := Blk.set h 3 (.bool f)
theorem LexAt.named {w : World} {p : Nat} {x : ByteArray} {s : Lx} (h : LexAt w p x s) (nm : ByteArray) : LexAt (w.setCell ⟨p, 4, none⟩ (.string nm)) p x { s with st := nm } := Blk.set h 4 (.string nm)
/-- A lexer that may go on. -/
structure LexOk (w : World) (x : ByteArray) (s : Lx) : Prop where
  size : x.size ≤ 65536
  at_ : s.at_ ≤ x.size
  st : s.st.size ≤ 65536
  lax : Lax w

set_option maxHeartbeats 1000000 in
theorem lnew_any (x : ByteArray) (w : World) :
    Calls Tryz.prog 10 #[.string x] w fun e w' => e = .returned (.pointer (some ⟨w.heap.size, 0, none⟩)) ∧ LexAt w' w.heap.size x startL ∧ Below w.heap.size w w' := by
  go_enter Tryz.func10, Tryz.ntmps10
  go_wp2_with fail
  go_ret
  exact ⟨rfl, Blk.new w _ _ _, (Below.refl _ _).alloc (Nat.le_refl _) _⟩
set_option maxHeartbeats 1000000 in
theorem lset_any (p : Nat) (x : ByteArray) (s : Lx) (m : Int) (w : World) (h : LexAt w p x s) :
    Calls Tryz.prog 12 #[.pointer (some ⟨p, 0, none⟩), .int .i64 m] w fun e w' => (∃ v, e = .returned v) ∧ LexAt w' p x (setL s m) ∧ But (fun k => k = p) w w' := by
  have HS : Hid (∀ mm, mm = (if m < 1 ∨ 4 < m then 1 else m) → LexAt (w.setCell ⟨p, 2, none⟩ (.int .i64 mm)) p x (setL s m) ∧ But (fun k => k = p) w (w.setCell ⟨p, 2, none⟩ (.int .i64 mm))) := fun mm e => by
    subst e
    exact ⟨h.moded _, (But.refl (fun k => k = p) w).setCell ⟨p, 2, none⟩ _ (.inl rfl)⟩
  obtain ⟨k0, k1, k2, k3, k4, f1, f2, f3, f4⟩ := h.cells
  have hcase : (decide (m < 1) = true ∧ m < 1) ∨ (decide (m < 1) = false ∧ decide (m > 4) = true ∧ ¬ m < 1 ∧ 4 < m) ∨ (decide (m < 1) = false ∧ decide (m > 4) = false ∧ ¬ m < 1 ∧ ¬ 4 < m) := by
    by_cases h1 : m < 1
    · exact .inl ⟨decide_eq_true h1, h1⟩
    · by_cases h2 : 4 < m
      · exact .inr (.inl ⟨decide_eq_false h1, decide_eq_true h2, h1, h2⟩)
      · exact .inr (.inr ⟨decide_eq_false h1, decide_eq_false h2, h1, h2⟩)
  clear h
  rcases hcase with ⟨d1, g1⟩ | ⟨d1, d2, g1, g2⟩ | ⟨d1, d2, g1, g2⟩
  · have HC := Lib.hid (HS.out 1 (by rw [if_pos (.inl g1)]))
    go_enter Tryz.func12, Tryz.ntmps12
    go_wp2_with fail
    refine bodyPost_end (results_none rfl _ _ _) rfl ?_
    exact ⟨⟨_, rfl⟩, HC.out⟩
  · have HC := Lib.hid (HS.out 1 (by rw [if_pos (.inr g2)]))
    go_enter Tryz.func12, Tryz.ntmps12
    go_wp2_with fail
    refine bodyPost_end (results_none rfl _ _ _) rfl ?_
    exact ⟨⟨_, rfl⟩, HC.out⟩
  · have HC := Lib.hid (HS.out m (by rw [if_neg (by omega)]))
    go_enter Tryz.func12, Tryz.ntmps12
    go_wp2_with fail
    refine bodyPost_end (results_none rfl _ _ _) rfl ?_
    exact ⟨⟨_, rfl⟩, HC.out⟩

theorem name_here {x : List UInt8} {k : Nat} (hk : k < x.length) : decide ((nameL x k : Int) = (k : Int)) = (x[k]?).any (fun c => hasB [9, 10, 12, 13, 32, 47, 62] c) := by
  rw [List.getElem?_eq_getElem hk]
  show _ = hasB _ x[k]
  cases hb : hasB [9, 10, 12, 13, 32, 47, 62] x[k] with
  | true =>
    have : nameL x k = k := stopL_stop _ x k hk (by rw [hb]; rfl)
    rw [this]; simp
  | false =>
    have h1 := stopL_step (fun c => !hasB [9, 10, 12, 13, 32, 47, 62] c) x k hk (by rw [hb]; rfl)
    have h2 : k + 1 ≤ nameL x k := by show k + 1 ≤ stopL _ x k; rw [← h1]; exact stopL_ge _ _ _
    rw [decide_eq_false (by omega)]
set_option maxHeartbeats 4000000 in
theorem ends_any (p : Nat) (x : ByteArray) (s : Lx) (k : Nat) (w : World) (h : LexAt w p x s) (ho : LexOk w x s) (hk : k ≤ x.size) :
    Calls Tryz.prog 37 #[.pointer (some ⟨p, 0, none⟩), .int .i64 (k : Int)] w fun e w' => e = .returned (.bool (endsX (B x) (B s.st) k)) ∧ Below w.heap.size w w' := by
  obtain ⟨a, mo, fo, st⟩ := s
  have hxs := ho.size
  have hss := ho.st
  simp only at *
  have hend : endsX (B x) (B st) k = (decide (B st ≠ []) && (foldL (B x) (60 :: 47 :: B st) k && ((B x)[k + 2 + st.size]?).any (fun c => hasB [9, 10, 12, 13, 32, 47, 62] c))) := by unfold endsX; rw [size_B st]
  have HE := Lib.hid hend
  by_cases hst : st = ⟨#[]⟩
  · subst hst
    have e1 : ((⟨#[]⟩ : ByteArray).toList == []) = true := by decide +kernel
    have hr : endsX (B x) (B ⟨#[]⟩) k = false := by rw [hend]; rfl
    rw [hr]
    obtain ⟨k0, k1, k2, k3, k4, f1, f2, f3, f4⟩ := h.cells
    have cc4 : ∀ n : After w, n.W.cell? ⟨p, 4, none⟩ = some (.string ⟨#[]⟩) := fun n => (h.keep n.below).cells.2.2.2.2.1
    clear h hend hr
    go_enter Tryz.func37, Tryz.ntmps37
    go_wp2_with fail
    refine wp_region_after (by kernel_rfl) (by kernel_rfl) ?_
    repeat (any_goals (go_big_quiet_step (fail)))
    refine wpQuiet_nil ?_
    rintro w' ⟨n, rfl⟩
    go_wp2_with fail
    go_ret
    exact ⟨rfl, n.below⟩
  · have hb0 : B st ≠ [] := fun e => hst (B_inj e)
    have e1 : (st.toList == []) = false := by rw [toList_B, beq_eq_false_iff_ne]; exact hb0
    rw [decide_eq_true hb0, Bool.true_and] at hend
    have q1 : (⟨#[60, 47]⟩ : ByteArray).size + st.size ≤ 9223372036854775807 := by show 2 + st.size ≤ _; omega
    have hBs : B ((⟨#[60, 47]⟩ : ByteArray) ++ st) = 60 :: 47 :: B st := by
      unfold B
      rw [ByteArray.data_append, Array.toList_append]; rfl
    have HF := Lib.hid (fun w => fold_any x ((⟨#[60, 47]⟩ : ByteArray) ++ st) (k : Int) w (by omega) (by rw [ByteArray.size_append]; show 2 + st.size ≤ _; omega))
    rw [hBs, clampN_nat k x.size hk] at HF
    have HN := Lib.hid (fun w (hk2 : k + 2 + st.size ≤ x.size) => nameK x (k + 2 + st.size) w hxs hk2)
    have cc0 : ∀ n : After w, n.W.cell? ⟨p, 0, none⟩ = some (.string x) := fun n => (h.keep n.below).cells.1
    have cc4 : ∀ n : After w, n.W.cell? ⟨p, 4, none⟩ = some (.string st) := fun n => (h.keep n.below).cells.2.2.2.2.1
    have HH := Lib.hid h
    have HEND := Lib.hid hend
    clear h hend hb0 hBs HE
    obtain ⟨fb, hfb⟩ : ∃ b, foldL (B x) (60 :: 47 :: B st) k = b := ⟨_, rfl⟩
    rw [hfb] at HF HEND
    clear hfb
    cases fb
    · go_enter Tryz.func37, Tryz.ntmps37
      go_wp2_with fail
      refine wp_region_after (by kernel_rfl) (by kernel_rfl) ?_
      repeat (any_goals (go_big_quiet_step ((go_at_call 57; with_reducible exact call_after (HF.out _)))))
      refine wpQuiet_nil ?_
      rintro w' ⟨n, rfl⟩
      go_wp2_with fail
      go_ret
      exact ⟨congrArg (fun b => Ending.returned (.bool b)) (by rw [HEND.out]; rfl), n.below⟩
    · go_enter Tryz.func37, Tryz.ntmps37
      go_wp2_with fail
      refine wp_region_after (by kernel_rfl) (by kernel_rfl) ?_
      repeat (any_goals (go_big_quiet_step ((go_at_call 57; with_reducible exact call_after (HF.out _)))))
      refine wpQuiet_nil ?_
      rintro w' ⟨n, rfl⟩
      have c0 := cc0 n
      have c4 := cc4 n
      have w1 : IntKind.i64.wrap ((k : Int) + 2) = (k : Int) + 2 := IntWalk.i64_in _ (by omega)
      have w2 : IntKind.i64.wrap ((k : Int) + 2 + (st.size : Int)) = (k : Int) + 2 + (st.size : Int) := IntWalk.i64_in _ (by omega)
      have HNB := Lib.hid n.below
      clear cc0 cc4
      by_cases hlt : k + 2 + st.size < x.size
      · have d1 : decide ((k : Int) + 2 + (st.size : Int) < (x.size : Int)) = true := decide_eq_true (by omega)
        have hnm := name_here (x := B x) (k := k + 2 + st.size) (by rw [← size_B]; exact hlt)
        have HNM := Lib.hid hnm
        have HN2 := Lib.hid (fun w => HN.out w (by omega))
        rw [show ((k + 2 + st.size : Nat) : Int) = (k : Int) + 2 + (st.size : Int) by omega] at HN2 hnm
        clear HN
        obtain ⟨nb, hnb⟩ : ∃ b, decide ((nameL (B x) (k + 2 + st.size) : Int) = (k : Int) + 2 + (st.size : Int)) = b := ⟨_, rfl⟩
        have hnb2 : (((nameL (B x) (k + 2 + st.size) : Nat) : Int) == (k : Int) + 2 + (st.size : Int)) = nb := by rw [← hnb]; rfl
        rw [hnb] at hnm
        clear hnb
        have HRES := Lib.hid hnm
        clear hnm HNM
        generalize nameL (B x) (k + 2 + st.size) = nn at *
        go_wp2_with fail
        refine (HN2.out _).mono ?_
        rintro e w2 ⟨rfl, rfl⟩
        cases nb
        all_goals
          go_wp2_with fail
          go_ret
          exact ⟨congrArg (fun b => Ending.returned (.bool b)) (by rw [HEND.out, ← HRES.out]; rfl), HNB.out⟩
      · have d1 : decide ((k : Int) + 2 + (st.size : Int) < (x.size : Int)) = false := decide_eq_false (by omega)
        have hno : (B x)[k + 2 + st.size]? = none := List.getElem?_eq_none (by rw [← size_B]; omega)
        have HNO := Lib.hid hno
        clear hno HN
        go_wp2_with fail
        go_ret
        exact ⟨congrArg (fun b => Ending.returned (.bool b)) (by rw [HEND.out, HNO.out]; rfl), HNB.out⟩

/-- What 'marked' asks of the two readers. -/
theorem tok_alloc_below (w : World) (cs : Array Value) : Below w.heap.size w (w.alloc (.cells cs 44)).drew := ((Below.refl _ _).alloc (Nat.le_refl _) _).drew
set_option maxHeartbeats 8000000 in
set_option maxRecDepth 100000 in
theorem marked_any (p : Nat) (x : ByteArray) (s : Lx) (k : Nat) (w : World) (h : LexAt w p x s) (ho : LexOk w x s) :
    Calls Tryz.prog 74 #[.pointer (some ⟨p, 0, none⟩), .int .i64 (k : Int)] w fun e w' => e = .returned (.bool (markedX (B x) s.fo k)) ∧ Below w.heap.size w w' := by
  obtain ⟨a, mo, fo, st⟩ := s
  have hxs := ho.size
  simp only at *
  have hm : markedX (B x) fo k = ((readM (B x) k fo).2.2 || ((readT (B x) k).2.2 || (readT (B x) k).2.1 != (k : Int))) := rfl
  have HM := Lib.hid (fun W (hW : Below w.heap.size w W) => mread_any x (k : Int) fo W hxs (ho.lax.below hW))
  have HT := Lib.hid (fun W (hW : Below w.heap.size w W) => tread_any x W hxs (k : Int) (ho.lax.below hW))
  have HH := Lib.hid h
  have KS := Lib.hid (fun W (hW : Below w.heap.size w W) => (show W.cell? ⟨p, 0, none⟩ = some (.string x) ∧ W.cell? ⟨p, 3, none⟩ = some (.bool fo) from ⟨(h.keep hW).cells.1, (h.keep hW).cells.2.2.2.1⟩))
  generalize readM (B x) k fo = rm at *
  generalize readT (B x) k = rt at *
  obtain ⟨⟨mk, mn, mt⟩, mto, mok⟩ := rm
  obtain ⟨⟨tk, tn, ta, tsf⟩, tto, tok⟩ := rt
  simp only [valM, tkM] at HM hm
  rw [hm]
  obtain ⟨nb, hnb⟩ : ∃ b, (tto != (k : Int)) = b := ⟨_, rfl⟩
  rw [hnb]
  have HNB := Lib.hid hnb
  clear hnb
  have HDB := Lib.hid (made_drew w)
  have HDA := Lib.hid (tok_alloc_below w #[.int .i64 0, .string ⟨#[]⟩, .slice none 0 0, .bool false, .string ⟨#[]⟩])
  have HZA := Lib.hid (show Blk (w.alloc (.cells #[.int .i64 0, .string ⟨#[]⟩, .slice none 0 0, .bool false, .string ⟨#[]⟩] 44)).drew w.heap.size 44 #[.int .i64 0, .string ⟨#[]⟩, .slice none 0 0, .bool false, .string ⟨#[]⟩] (0, 0) from Blk.new w _ _ _)
  have HMB := Lib.hid (HM.out _ HDB.out)
  have HMA := Lib.hid (HM.out _ HDA.out)
  clear h ho hm HM
  go_enter Tryz.func74, Tryz.ntmps74
  go_upto_region 1 with (fail)
  go_cut [7] (fun s7 wx => s7 = .bool mok ∧ Below w.heap.size w wx)
  case first =>
    go_region_held3 (fun W => W.cell? ⟨p, 0, none⟩ = some (.string x) ∧ W.cell? ⟨p, 3, none⟩ = some (.bool fo))
      (first
        | exact KS.out _ HBW.out
        | exact KS.out _ HDB.out
        | exact KS.out _ HDA.out
        | exact KS.out _ (made_alloc HBW.out _)
        | exact KS.out _ (set5_belowG HBW.out (Nat.le_refl _) _ _ _ _ _))
      ((go_at_call 42
        first
          | (with_reducible refine HMB.out.mono ?_
             rintro e w5 ⟨rfl, b5⟩
             have HBW := Lib.hid (below_then HDB.out HDB.out.size b5)
             clear b5)
          | (with_reducible refine HMA.out.mono ?_
             rintro e w5 ⟨rfl, b5⟩
             have HBW := Lib.hid (below_then HDA.out HDA.out.size b5)
             obtain ⟨z0, z1, z2, z3, z4, f0, f1, f2, f3, f4⟩ := cells_tokG (HZA.out.keep b5)
             clear b5)))
    all_goals
      go_wp2_with fail
      go_meet
      refine ⟨rfl, ?_⟩
      first
        | exact made_alloc HBW.out _
        | exact set5_belowG HBW.out (Nat.le_refl _) _ _ _ _ _
  case rest =>
    obtain ⟨rfl, hb⟩ := hcut
    have HBc := Lib.hid hb
    obtain ⟨k0, k3⟩ := KS.out _ hb
    have HTc := Lib.hid (HT.out _ hb)
    unfold ReadOut tkV at HTc
    simp only at HTc
    clear hb HT HMA HMB HDA HDB HZA HH KS
    cases mok
    · have hnb := HNB.out
      go_wp2_with fail
      refine HTc.out.mono ?_
      rintro e w3 ⟨A, c, rfl, hrd, hrw, b3⟩
      have HB3 := Lib.hid (made_alloc (below_then HBc.out HBc.out.size b3) (.cells #[.int .i64 tk, .string (S tn), .slice A ta.length c, .bool tsf, .string ⟨#[]⟩] 44))
      clear hrd hrw b3
      cases tok <;> cases nb
      all_goals
        go_wp2_with fail
        go_ret
        exact ⟨rfl, HB3.out⟩
    · go_wp2_with fail
      go_ret
      exact ⟨rfl, HBc.out⟩
end Go.Proofs.YtdjeajbinpgpiaaGreat
