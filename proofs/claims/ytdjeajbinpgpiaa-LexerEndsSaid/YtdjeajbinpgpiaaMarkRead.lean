/- Package mark: Read: what it answers. -/
import Derived.Test.YtdjeajbinpgpiaaMarkC
namespace Go.Proofs.Ytdjeajbinpgpiaa
open Go.RowKit

theorem starts_len {l sub : List UInt8} {k : Nat} (hk : k ≤ l.length) (h : startsL l sub k = true) : k + sub.length ≤ l.length := by
  rw [startsL_occ] at h
  unfold Lib.occAt at h
  rw [List.isPrefixOf_iff_prefix] at h
  have := h.length_le
  rw [List.length_drop] at this
  omega
theorem fold_len {l sub : List UInt8} {k : Nat} (hk : k ≤ l.length) (h : foldL l sub k = true) : k + sub.length ≤ l.length := by
  unfold foldL at h
  have := starts_len (l := lowL l) (sub := lowL sub) (k := k) (by rw [lowL_length]; exact hk) h
  rwa [lowL_length, lowL_length] at this

set_option maxHeartbeats 4000000 in
set_option maxRecDepth 100000 in
theorem mread_any (s : ByteArray) (at_ : Int) (fo : Bool) (w : World) (hs : s.size ≤ 65536) (hw : Lax w) :
    Calls Try.prog 32 #[.string s, .int .i64 at_, .bool fo] w fun e w' => e = .returned (valM (readM (B s) at_ fo)) ∧ Below w.heap.size w w' := by
  have hb0 : Below w.heap.size w (w.alloc (.cells #[.int .i64 0, .string ⟨#[]⟩, .slice none 0 0, .bool false, .string ⟨#[]⟩] 27)) := (Below.refl _ _).alloc (Nat.le_refl _) _
  have hZ := Blk.new w 27 #[.int .i64 0, .string ⟨#[]⟩, .slice none 0 0, .bool false, .string ⟨#[]⟩] (0, 0)
  obtain ⟨w0, hw0⟩ : ∃ w0, w0 = w.alloc (.cells #[.int .i64 0, .string ⟨#[]⟩, .slice none 0 0, .bool false, .string ⟨#[]⟩] 27) := ⟨_, rfl⟩
  rw [← hw0] at hb0 hZ
  have HZ := Lib.hid hZ
  have HB0 := Lib.hid hb0
  have HW := Lib.hid (hw.below hb0)
  have HSZ := Lib.hid hs
  obtain ⟨z0, z1, z2, z3, z4, f0, f1, f2, f3, f4⟩ := var_tok hZ
  have hwh := hw0
  clear hb0 hZ hw
  by_cases hout : at_ < 0 ∨ (s.size : Int) ≤ at_
  · have hrm : Hid (readM (B s) at_ fo = (noTm, at_, false)) := by show _ = _; unfold readM; rw [if_pos (by rw [← size_B]; exact hout)]
    have hd : decide (at_ < 0) = true ∨ (decide (at_ < 0) = false ∧ decide (at_ ≥ (s.size : Int)) = true) := by
      by_cases h1 : at_ < 0
      · exact .inl (decide_eq_true h1)
      · exact .inr ⟨decide_eq_false h1, decide_eq_true (by omega)⟩
    clear hout hs hwh
    rcases hd with d0 | ⟨d0, d1⟩
    all_goals
      go_enter Try.func32, Try.ntmps32
      go_wp2_with fail
      refine bodyPost_ret (v := .tuple #[.agg #[.int .i64 0, .string ⟨#[]⟩, .slice none 0 0, .bool false, .string ⟨#[]⟩], .int .i64 at_, .bool false]) (by simp [results, Try.results32, go_sem]) rfl ⟨ret_mark ?_, hw0 ▸ HB0.out⟩
      rw [hrm.out]
      simp [valM, tkM, noTm, S_nil]
  · obtain ⟨k, rfl⟩ := Int.eq_ofNat_of_zero_le (show 0 ≤ at_ by omega)
    have hk : k < s.size := by omega
    have hkl : k ≤ (B s).length := by rw [← size_B]; omega
    have d0 : decide ((k : Int) < 0) = false := decide_eq_false (by omega)
    have d1 : decide ((k : Int) ≥ (s.size : Int)) = false := decide_eq_false (by omega)
    have hrm : readM (B s) (k : Int) fo = if startsL (B s) beginA k = true then commentM (B s) (k + 4)
        else if foldL (B s) beginD k = true then doctypeM (B s) (k + 9)
        else if (fo && startsL (B s) beginC k) = true then dataM (B s) (k + 9)
        else if startsL (B s) [60, 33] k = true then rubbishM (B s) (k + 2)
        else if startsL (B s) [60, 63] k = true then rubbishM (B s) (k + 1)
        else if startsL (B s) [60, 47, 62] k = true then (noTm, ((k + 3 : Nat) : Int), true)
        else if (startsL (B s) [60, 47] k && noLetterAt (B s) (k + 2)) = true then rubbishM (B s) (k + 2)
        else (noTm, (k : Int), false) := by
      unfold readM
      rw [if_neg (by rw [← size_B]; omega), Int.toNat_natCast]
    have HRM := Lib.hid hrm
    have HST := Lib.hid (fun (sub : ByteArray) (w : World) => startsN s k sub w hs (by omega))
    have HFO := Lib.hid (fun (w : World) => by
      have := fold_any s ⟨#[60, 33, 100, 111, 99, 116, 121, 112, 101]⟩ (k : Int) w (by omega) (by decide)
      rw [clampN_nat k s.size (by omega), show B ⟨#[60, 33, 100, 111, 99, 116, 121, 112, 101]⟩ = beginD from rfl] at this
      exact this)
    have HK := Lib.hid hk
    have HKL := Lib.hid hkl
    clear hout hrm hkl hs hwh
    obtain ⟨p1, hp1⟩ : ∃ b, startsL (B s) beginA k = b := ⟨_, rfl⟩
    obtain ⟨p2, hp2⟩ : ∃ b, foldL (B s) beginD k = b := ⟨_, rfl⟩
    obtain ⟨p3, hp3⟩ : ∃ b, startsL (B s) beginC k = b := ⟨_, rfl⟩
    obtain ⟨p4, hp4⟩ : ∃ b, startsL (B s) [60, 33] k = b := ⟨_, rfl⟩
    obtain ⟨p5, hp5⟩ : ∃ b, startsL (B s) [60, 63] k = b := ⟨_, rfl⟩
    obtain ⟨p6, hp6⟩ : ∃ b, startsL (B s) [60, 47, 62] k = b := ⟨_, rfl⟩
    obtain ⟨p7, hp7⟩ : ∃ b, startsL (B s) [60, 47] k = b := ⟨_, rfl⟩
    have H1 := Lib.hid (fun w => HST.out ⟨#[60, 33, 45, 45]⟩ w)
    have H3 := Lib.hid (fun w => HST.out ⟨#[60, 33, 91, 67, 68, 65, 84, 65, 91]⟩ w)
    have H4 := Lib.hid (fun w => HST.out ⟨#[60, 33]⟩ w)
    have H5 := Lib.hid (fun w => HST.out ⟨#[60, 63]⟩ w)
    have H6 := Lib.hid (fun w => HST.out ⟨#[60, 47, 62]⟩ w)
    have H7 := Lib.hid (fun w => HST.out ⟨#[60, 47]⟩ w)
    rw [show B ⟨#[60, 33, 45, 45]⟩ = beginA from rfl, hp1] at H1
    rw [show B ⟨#[60, 33, 91, 67, 68, 65, 84, 65, 91]⟩ = beginC from rfl, hp3] at H3
    rw [show B ⟨#[60, 33]⟩ = [60, 33] from rfl, hp4] at H4
    rw [show B ⟨#[60, 63]⟩ = [60, 63] from rfl, hp5] at H5
    rw [show B ⟨#[60, 47, 62]⟩ = [60, 47, 62] from rfl, hp6] at H6
    rw [show B ⟨#[60, 47]⟩ = [60, 47] from rfl, hp7] at H7
    rw [hp2] at HFO
    have L1 := Lib.hid (fun h : p1 = true => starts_len HKL.out (hp1.trans h))
    have L2 := Lib.hid (fun h : p2 = true => fold_len HKL.out (hp2.trans h))
    have L3 := Lib.hid (fun h : p3 = true => starts_len HKL.out (hp3.trans h))
    have L4 := Lib.hid (fun h : p4 = true => starts_len HKL.out (hp4.trans h))
    have L5 := Lib.hid (fun h : p5 = true => starts_len HKL.out (hp5.trans h))
    have L6 := Lib.hid (fun h : p6 = true => starts_len HKL.out (hp6.trans h))
    have L7 := Lib.hid (fun h : p7 = true => starts_len HKL.out (hp7.trans h))
    rw [hp1, hp2, hp3, hp4, hp5, hp6, hp7] at HRM
    rw [← size_B] at L1 L2 L3 L4 L5 L6 L7
    clear hp1 hp2 hp3 hp4 hp5 hp6 hp7
    go_enter Try.func32, Try.ntmps32
    go_wp2_with fail
    rw [show w.alloc (.cells #[.int .i64 0, .string ⟨#[]⟩, .slice none 0 0, .bool false, .string ⟨#[]⟩] 27) = w0 from hw0.symm]
    clear hw0
    refine (H1.out _).mono ?_
    rintro e w' ⟨rfl, rfl⟩
    cases p1
    rotate_left
    · have hl := L1.out rfl
      have hc := comment_any s (k + 4) w0 HSZ.out HW.out (show k + 4 ≤ s.size from hl)
      have hrm := HRM.out
      simp only [if_true] at hrm
      rw [show ((k + 4 : Nat) : Int) = (k : Int) + 4 by omega] at hc
      have s9 : IntKind.i64.wrap ((k : Int) + 4) = (k : Int) + 4 := IntWalk.i64_in _ (by have := HSZ.out; omega)
      have HR9 := Lib.hid hrm
      generalize commentM (B s) (k + 4) = r at *
      obtain ⟨⟨rk, rn, rt⟩, ri, rb⟩ := r
      have HC := Lib.hid hc
      clear hl hrm hc
      go_wp2_with fail
      refine HC.out.mono ?_
      rintro e w9 ⟨rfl, b9⟩
      obtain ⟨y0, y1, y2, y3, y4, g0, g1, g2, g3, g4⟩ := var_tok (HZ.out.keep b9)
      have HB9 := Lib.hid (below_then HB0.out HB0.out.size b9)
      clear b9
      simp only [valM, tkM]
      go_wp2_with fail
      refine bodyPost_ret (v := valM (⟨rk, rn, rt⟩, ri, rb)) (by simp [results, Try.results32, go_sem, y0, y1, y2, y3, y4, valM, tkM]) rfl ⟨by rw [HR9.out], set5_below HB9.out (Nat.le_refl _) _ _ _ _ _⟩
    · go_wp2_with fail
      refine (HFO.out _).mono ?_
      rintro e w2 ⟨rfl, b2⟩
      have HB2 := Lib.hid (below_then HB0.out HB0.out.size b2)
      have HZ2 := Lib.hid (HZ.out.keep b2)
      have HW2 := Lib.hid (HW.out.below b2)
      obtain ⟨z0, z1, z2, z3, z4, f0, f1, f2, f3, f4⟩ := var_tok (HZ.out.keep b2)
      clear b2
      cases p2
      rotate_left
      · have hl := L2.out rfl
        have hc := doctype_any s (k + 9) w2 HSZ.out HW2.out (show k + 9 ≤ s.size from hl)
        have hrm := HRM.out
        simp only [Bool.false_eq_true, if_false, if_true] at hrm
        rw [show ((k + 9 : Nat) : Int) = (k : Int) + 9 by omega] at hc
        have s9 : IntKind.i64.wrap ((k : Int) + 9) = (k : Int) + 9 := IntWalk.i64_in _ (by have := HSZ.out; omega)
        have HR9 := Lib.hid hrm
        generalize doctypeM (B s) (k + 9) = r at *
        obtain ⟨⟨rk, rn, rt⟩, ri, rb⟩ := r
        have HC := Lib.hid hc
        clear hl hrm hc
        go_wp2_with fail
        refine HC.out.mono ?_
        rintro e w9 ⟨rfl, b9⟩
        obtain ⟨y0, y1, y2, y3, y4, g0, g1, g2, g3, g4⟩ := var_tok (HZ2.out.keep b9)
        have HB9 := Lib.hid (below_then HB2.out HB2.out.size b9)
        clear b9
        simp only [valM, tkM]
        go_wp2_with fail
        refine bodyPost_ret (v := valM (⟨rk, rn, rt⟩, ri, rb)) (by simp [results, Try.results32, go_sem, y0, y1, y2, y3, y4, valM, tkM]) rfl ⟨by rw [HR9.out], set5_below HB9.out (Nat.le_refl _) _ _ _ _ _⟩
      · go_upto_region 7 with (fail)
        go_cut [41] (fun s41 wx => s41 = .bool (fo && p3) ∧ wx = w2)
        case first =>
          cases fo
          · go_wp2_with fail
            go_meet
            exact ⟨rfl, rfl⟩
          · go_wp2_with fail
            refine (H3.out _).mono ?_
            rintro e w' ⟨rfl, rfl⟩
            go_wp2_with fail
            go_meet
            exact ⟨rfl, rfl⟩
        case rest =>
        obtain ⟨rfl, rfl⟩ := hcut
        have L3f := Lib.hid (fun h : (fo && p3) = true => L3.out (by rw [Bool.and_eq_true] at h; exact h.2))
        generalize (fo && p3) = p3f at *
        cases p3f
        rotate_left
        · have hl := L3f.out rfl
          have hc := data_any s (k + 9) wc HSZ.out HW2.out (show k + 9 ≤ s.size from hl)
          have hrm := HRM.out
          simp only [Bool.false_eq_true, if_false, if_true] at hrm
          rw [show ((k + 9 : Nat) : Int) = (k : Int) + 9 by omega] at hc
          have s9 : IntKind.i64.wrap ((k : Int) + 9) = (k : Int) + 9 := IntWalk.i64_in _ (by have := HSZ.out; omega)
          have HR9 := Lib.hid hrm
          generalize dataM (B s) (k + 9) = r at *
          obtain ⟨⟨rk, rn, rt⟩, ri, rb⟩ := r
          have HC := Lib.hid hc
          clear hl hrm hc
          go_wp2_with fail
          refine HC.out.mono ?_
          rintro e w9 ⟨rfl, b9⟩
          obtain ⟨y0, y1, y2, y3, y4, g0, g1, g2, g3, g4⟩ := var_tok (HZ2.out.keep b9)
          have HB9 := Lib.hid (below_then HB2.out HB2.out.size b9)
          clear b9
          simp only [valM, tkM]
          go_wp2_with fail
          refine bodyPost_ret (v := valM (⟨rk, rn, rt⟩, ri, rb)) (by simp [results, Try.results32, go_sem, y0, y1, y2, y3, y4, valM, tkM]) rfl ⟨by rw [HR9.out], set5_below HB9.out (Nat.le_refl _) _ _ _ _ _⟩
        · go_wp2_with fail
          refine (H4.out _).mono ?_
          rintro e w' ⟨rfl, rfl⟩
          cases p4
          rotate_left
          · have hl := L4.out rfl
            have hc := rubbish_any s (k + 2) wc HSZ.out HW2.out (show k + 2 ≤ s.size from hl)
            have hrm := HRM.out
            simp only [Bool.false_eq_true, if_false, if_true] at hrm
            rw [show ((k + 2 : Nat) : Int) = (k : Int) + 2 by omega] at hc
            have s9 : IntKind.i64.wrap ((k : Int) + 2) = (k : Int) + 2 := IntWalk.i64_in _ (by have := HSZ.out; omega)
            have HR9 := Lib.hid hrm
            generalize rubbishM (B s) (k + 2) = r at *
            obtain ⟨⟨rk, rn, rt⟩, ri, rb⟩ := r
            have HC := Lib.hid hc
            clear hl hrm hc
            go_wp2_with fail
            refine HC.out.mono ?_
            rintro e w9 ⟨rfl, b9⟩
            obtain ⟨y0, y1, y2, y3, y4, g0, g1, g2, g3, g4⟩ := var_tok (HZ2.out.keep b9)
            have HB9 := Lib.hid (below_then HB2.out HB2.out.size b9)
            clear b9
            simp only [valM, tkM]
            go_wp2_with fail
            refine bodyPost_ret (v := valM (⟨rk, rn, rt⟩, ri, rb)) (by simp [results, Try.results32, go_sem, y0, y1, y2, y3, y4, valM, tkM]) rfl ⟨by rw [HR9.out], set5_below HB9.out (Nat.le_refl _) _ _ _ _ _⟩
          · go_wp2_with fail
            refine (H5.out _).mono ?_
            rintro e w' ⟨rfl, rfl⟩
            cases p5
            rotate_left
            · have hl := L5.out rfl
              have hc := rubbish_any s (k + 1) wc HSZ.out HW2.out (Nat.le_trans (by omega) (show k + 2 ≤ s.size from hl))
              have hrm := HRM.out
              simp only [Bool.false_eq_true, if_false, if_true] at hrm
              rw [show ((k + 1 : Nat) : Int) = (k : Int) + 1 by omega] at hc
              have s9 : IntKind.i64.wrap ((k : Int) + 1) = (k : Int) + 1 := IntWalk.i64_in _ (by have := HSZ.out; omega)
              have HR9 := Lib.hid hrm
              generalize rubbishM (B s) (k + 1) = r at *
              obtain ⟨⟨rk, rn, rt⟩, ri, rb⟩ := r
              have HC := Lib.hid hc
              clear hl hrm hc
              go_wp2_with fail
              refine HC.out.mono ?_
              rintro e w9 ⟨rfl, b9⟩
              obtain ⟨y0, y1, y2, y3, y4, g0, g1, g2, g3, g4⟩ := var_tok (HZ2.out.keep b9)
              have HB9 := Lib.hid (below_then HB2.out HB2.out.size b9)
              clear b9
              simp only [valM, tkM]
              go_wp2_with fail
              refine bodyPost_ret (v := valM (⟨rk, rn, rt⟩, ri, rb)) (by simp [results, Try.results32, go_sem, y0, y1, y2, y3, y4, valM, tkM]) rfl ⟨by rw [HR9.out], set5_below HB9.out (Nat.le_refl _) _ _ _ _ _⟩
            · go_wp2_with fail
              refine (H6.out _).mono ?_
              rintro e w' ⟨rfl, rfl⟩
              cases p6
              rotate_left
              · have hrm := HRM.out
                simp only [Bool.false_eq_true, if_false, if_true] at hrm
                have HR9 := Lib.hid hrm
                have s9 : IntKind.i64.wrap ((k : Int) + 3) = (k : Int) + 3 := IntWalk.i64_in _ (by have := HSZ.out; omega)
                clear hrm
                go_wp2_with fail
                refine bodyPost_ret (v := .tuple #[.agg #[.int .i64 0, .string ⟨#[]⟩, .slice none 0 0, .bool false, .string ⟨#[]⟩], .int .i64 ((k : Int) + 3), .bool true]) (by simp [results, Try.results32, go_sem, z0, z1, z2, z3, z4]) rfl ⟨ret_mark ?_, set5_below HB2.out (Nat.le_refl _) _ _ _ _ _⟩
                rw [HR9.out]
                simp [valM, tkM, noTm, S_nil]
              · have s9 : IntKind.i64.wrap ((k : Int) + 2) = (k : Int) + 2 := IntWalk.i64_in _ (by have := HSZ.out; omega)
                go_upto_region 15 with (fail)
                go_cut [84] (fun s84 wx => s84 = .bool (p7 && noLetterAt (B s) (k + 2)) ∧ wx = wc)
                case first =>
                  go_wp2_with fail
                  refine (H7.out _).mono ?_
                  rintro e w' ⟨rfl, rfl⟩
                  cases p7
                  · go_wp2_with fail
                    go_meet
                    exact ⟨rfl, rfl⟩
                  · have hl : k + 2 ≤ s.size := L7.out rfl
                    by_cases hlt : k + 2 < s.size
                    · have hna : Hid (noLetterAt (B s) (k + 2) = !letterB s[k + 2]) := by show _ = _; unfold noLetterAt; rw [B_at s (k + 2) hlt]
                      have d5 : decide ((k : Int) + 2 < (s.size : Int)) = true := decide_eq_true (by omega)
                      have s10 : ((k : Int) + 2).toNat = k + 2 := by omega
                      have s11 : (0 : Int) ≤ (k : Int) + 2 := by omega
                      have s12 : (k : Int) + 2 < (s.size : Int) := by omega
                      go_wp2_with fail
                      refine (letter_rune s[k + 2] _).mono ?_
                      rintro e w' ⟨rfl, rfl⟩
                      go_wp2_with fail
                      go_meet
                      exact ⟨by rw [hna.out]; rfl, rfl⟩
                    · have hna : Hid (noLetterAt (B s) (k + 2) = false) := by show _ = _; unfold noLetterAt; rw [List.getElem?_eq_none (by rw [← size_B]; omega)]
                      have d5 : decide ((k : Int) + 2 < (s.size : Int)) = false := decide_eq_false (by omega)
                      go_wp2_with fail
                      go_meet
                      exact ⟨by rw [hna.out]; rfl, rfl⟩
                case rest =>
                obtain ⟨rfl, rfl⟩ := hcut
                have L8 := Lib.hid (fun h : (p7 && noLetterAt (B s) (k + 2)) = true => L7.out (by rw [Bool.and_eq_true] at h; exact h.1))
                generalize (p7 && noLetterAt (B s) (k + 2)) = p8 at *
                cases p8
                rotate_left
                · have hl := L8.out rfl
                  have hc := rubbish_any s (k + 2) wc HSZ.out HW2.out (show k + 2 ≤ s.size from hl)
                  have hrm := HRM.out
                  simp only [Bool.false_eq_true, if_false, if_true] at hrm
                  rw [show ((k + 2 : Nat) : Int) = (k : Int) + 2 by omega] at hc
                  have s9 : IntKind.i64.wrap ((k : Int) + 2) = (k : Int) + 2 := IntWalk.i64_in _ (by have := HSZ.out; omega)
                  have HR9 := Lib.hid hrm
                  generalize rubbishM (B s) (k + 2) = r at *
                  obtain ⟨⟨rk, rn, rt⟩, ri, rb⟩ := r
                  have HC := Lib.hid hc
                  clear hl hrm hc
                  go_wp2_with fail
                  refine HC.out.mono ?_
                  rintro e w9 ⟨rfl, b9⟩
                  obtain ⟨y0, y1, y2, y3, y4, g0, g1, g2, g3, g4⟩ := var_tok (HZ2.out.keep b9)
                  have HB9 := Lib.hid (below_then HB2.out HB2.out.size b9)
                  clear b9
                  simp only [valM, tkM]
                  go_wp2_with fail
                  refine bodyPost_ret (v := valM (⟨rk, rn, rt⟩, ri, rb)) (by simp [results, Try.results32, go_sem, y0, y1, y2, y3, y4, valM, tkM]) rfl ⟨by rw [HR9.out], set5_below HB9.out (Nat.le_refl _) _ _ _ _ _⟩
                · have hrm := HRM.out
                  simp only [Bool.false_eq_true, if_false] at hrm
                  have HR9 := Lib.hid hrm
                  clear hrm
                  go_wp2_with fail
                  refine bodyPost_ret (v := .tuple #[.agg #[.int .i64 0, .string ⟨#[]⟩, .slice none 0 0, .bool false, .string ⟨#[]⟩], .int .i64 (k : Int), .bool false]) (by simp [results, Try.results32, go_sem, z0, z1, z2, z3, z4]) rfl ⟨ret_mark ?_, set5_below HB2.out (Nat.le_refl _) _ _ _ _ _⟩
                  rw [HR9.out]
                  simp [valM, tkM, noTm, S_nil]
end Go.Proofs.Ytdjeajbinpgpiaa
