/- What the document says of marks: Read. -/
import Derived.Test.YtdjeajbinpgpiaaGreatJLexerTells17
import Derived.Test.YtdjeajbinpgpiaaGreatJLexerTellsMarkR
namespace Go.Proofs.YtdjeajbinpgpiaaGreat
open Go.RowKit

theorem starts_pre {l a b : List UInt8} {k : Nat} (h : startsL l (a ++ b) k = true) : startsL l a k = true := by
  rw [startsL_occ] at *
  unfold Lib.occAt at *
  rw [List.isPrefixOf_iff_prefix] at *
  exact (List.prefix_append a b).trans h
theorem starts_two {l : List UInt8} {a b c : UInt8} {k : Nat} (h : startsL l [a, b] k = true) (hne : b ≠ c) : startsL l [a, c] k = false := by
  rw [startsL_occ] at *
  unfold Lib.occAt at *
  rw [Bool.eq_false_iff]
  intro h2
  rw [List.isPrefixOf_iff_prefix] at *
  obtain ⟨x, hx⟩ := h
  obtain ⟨y, hy⟩ := h2
  rw [← hx] at hy
  simp at hy
  exact hne hy.1.symm
theorem low_far (c : UInt8) (n : UInt8) (hn : n.toNat < 65) (h : lowB c = n) : c = n := by
  have h1 := lowB_toNat c
  rw [h] at h1
  apply UInt8.toNat_inj.1
  split at h1 <;> omega
theorem low_60 (c : UInt8) (h : lowB c = 60) : c = 60 := low_far c 60 (by decide) h
theorem low_33 (c : UInt8) (h : lowB c = 33) : c = 33 := low_far c 33 (by decide) h
theorem lowL_cons (c : UInt8) (l : List UInt8) : lowL (c :: l) = lowB c :: lowL l := rfl
theorem fold_two {l : List UInt8} {k : Nat} : foldL l beginD k = (startsL l [60, 33] k && foldL l wordD (k + 2)) := by
  unfold foldL startsL Lib.occAt
  rw [lowL_drop, lowL_drop, ← List.drop_drop, show lowL beginD = 60 :: 33 :: wordD from rfl, show lowL wordD = wordD from rfl]
  generalize l.drop k = m
  match m with
  | [] => rfl
  | [a] =>
    show ([60, 33] ++ wordD).isPrefixOf [lowB a] = (([60, 33] : List UInt8).isPrefixOf [a] && _)
    simp [List.isPrefixOf]
  | a :: b :: r =>
    show (60 :: 33 :: wordD).isPrefixOf (lowB a :: lowB b :: lowL r) = (([60, 33] : List UInt8).isPrefixOf (a :: b :: r) && wordD.isPrefixOf (lowL r))
    simp only [List.isPrefixOf, Bool.and_true]
    rw [Bool.eq_iff_iff]
    simp only [Bool.and_eq_true, beq_iff_eq]
    constructor
    · intro ⟨h1, h2, h3⟩
      exact ⟨⟨(low_60 a h1.symm).symm, (low_33 b h2.symm).symm⟩, h3⟩
    · intro ⟨⟨h1, h2⟩, h3⟩
      exact ⟨by rw [← h1]; rfl, by rw [← h2]; rfl, h3⟩
/-- The same, in the document's order. -/
theorem read_ref (l : List UInt8) (k : Nat) (fo : Bool) (hk : k ≤ l.length) : readM l (k : Int) fo =
    if startsL l [60, 47, 62] k = true then (noTm, ((k + 3 : Nat) : Int), true)
    else if startsL l [60, 47] k = true then (if noLetterAt l (k + 2) = true then rubbishM l (k + 2) else (noTm, (k : Int), false))
    else if startsL l [60, 63] k = true then rubbishM l (k + 1)
    else if startsL l [60, 33] k = false then (noTm, (k : Int), false)
    else if startsL l beginA k = true then commentM l (k + 4)
    else if foldL l wordD (k + 2) = true then doctypeM l (k + 9)
    else if (fo && startsL l beginC k) = true then dataM l (k + 9)
    else rubbishM l (k + 2) := by
  have i1 : startsL l beginA k = true → startsL l [60, 33] k = true := fun h => starts_pre (b := [45, 45]) h
  have i3 : startsL l beginC k = true → startsL l [60, 33] k = true := fun h => starts_pre (b := [91, 67, 68, 65, 84, 65, 91]) h
  have i6 : startsL l [60, 47, 62] k = true → startsL l [60, 47] k = true := fun h => starts_pre (b := [62]) h
  have i45 : startsL l [60, 33] k = true → startsL l [60, 63] k = false := fun h => starts_two h (by decide)
  have i47 : startsL l [60, 33] k = true → startsL l [60, 47] k = false := fun h => starts_two h (by decide)
  have i57 : startsL l [60, 63] k = true → startsL l [60, 47] k = false := fun h => starts_two h (by decide)
  have iend : ∀ x : UInt8, l.length ≤ k → startsL l [60, x] k = false := fun x h => by
    cases hx : startsL l [60, x] k with
    | false => rfl
    | true => exact absurd (starts_len hk hx) (by show ¬ k + 2 ≤ l.length; omega)
  by_cases he : l.length ≤ k
  · have e4 := iend 33 he
    have e5 := iend 63 he
    have e7 := iend 47 he
    have e6 : startsL l [60, 47, 62] k = false := by
      cases h : startsL l [60, 47, 62] k with
      | false => rfl
      | true => rw [i6 h] at e7; exact absurd e7 (by decide)
    unfold readM
    rw [if_pos (.inr (by omega)), e6, e7, e5, e4]
    rfl
  · unfold readM
    rw [if_neg (by omega), Int.toNat_natCast, fold_two]
    generalize startsL l beginA k = p1 at *
    generalize startsL l beginC k = p3 at *
    generalize startsL l [60, 33] k = p4 at *
    generalize startsL l [60, 63] k = p5 at *
    generalize startsL l [60, 47, 62] k = p6 at *
    generalize startsL l [60, 47] k = p7 at *
    generalize foldL l wordD (k + 2) = p2
    generalize noLetterAt l (k + 2) = p8
    generalize rubbishM l (k + 2) = r2
    generalize rubbishM l (k + 1) = r1
    generalize commentM l (k + 4) = r3
    generalize doctypeM l (k + 9) = r4
    generalize dataM l (k + 9) = r5
    clear iend
    revert i1 i3 i6 i45 i47 i57
    cases p1 <;> cases p2 <;> cases p3 <;> cases p4 <;> cases p5 <;> cases p6 <;> cases p7 <;> cases p8 <;> cases fo <;> simp

set_option maxHeartbeats 4000000 in
set_option maxRecDepth 100000 in
theorem rread_any (s : ByteArray) (at_ : Int) (fo : Bool) (w : World) (hs : s.size ≤ 65536) :
    Calls Tryz.prog 31 #[.string s, .int .i64 at_, .bool fo] w fun e w' => e = .returned (valM (readM (B s) at_ fo)) ∧ Below w.heap.size w w' := by
  have hb0 : Below w.heap.size w (w.alloc (.cells #[.int .i64 0, .string ⟨#[]⟩, .slice none 0 0, .bool false, .string ⟨#[]⟩] 44)) := (Below.refl _ _).alloc (Nat.le_refl _) _
  have hZ := Blk.new w 44 #[.int .i64 0, .string ⟨#[]⟩, .slice none 0 0, .bool false, .string ⟨#[]⟩] (0, 0)
  obtain ⟨w0, hw0⟩ : ∃ w0, w0 = w.alloc (.cells #[.int .i64 0, .string ⟨#[]⟩, .slice none 0 0, .bool false, .string ⟨#[]⟩] 44) := ⟨_, rfl⟩
  rw [← hw0] at hb0 hZ
  have HZ := Lib.hid hZ
  have HB0 := Lib.hid hb0
  have HSZ := Lib.hid hs
  obtain ⟨z0, z1, z2, z3, z4, f0, f1, f2, f3, f4⟩ := var_tok hZ
  have hwh := hw0
  clear hb0 hZ
  by_cases hout : at_ < 0 ∨ (s.size : Int) < at_
  · have hrm : Hid (readM (B s) at_ fo = (noTm, at_, false)) := by show _ = _; unfold readM; rw [if_pos (by rw [← size_B]; omega)]
    have hd : decide (at_ < 0) = true ∨ (decide (at_ < 0) = false ∧ decide (at_ > (s.size : Int)) = true) := by
      by_cases h1 : at_ < 0
      · exact .inl (decide_eq_true h1)
      · exact .inr ⟨decide_eq_false h1, decide_eq_true (by omega)⟩
    clear hout hs hwh
    rcases hd with d0 | ⟨d0, d1⟩
    all_goals
      go_enter Tryz.func31, Tryz.ntmps31
      go_wp2_with fail
      refine bodyPost_ret (v := .tuple #[.agg #[.int .i64 0, .string ⟨#[]⟩, .slice none 0 0, .bool false, .string ⟨#[]⟩], .int .i64 at_, .bool false]) (by simp [results, Tryz.results31, go_sem]) rfl ⟨ret_mark ?_, hw0 ▸ HB0.out⟩
      rw [hrm.out]
      simp [valM, tkM, noTm, S_nil]
  obtain ⟨k, rfl⟩ := Int.eq_ofNat_of_zero_le (show 0 ≤ at_ by omega)
  have hk : k ≤ s.size := by omega
  have d0 : decide ((k : Int) < 0) = false := decide_eq_false (by omega)
  have d1 : decide ((k : Int) > (s.size : Int)) = false := decide_eq_false (by omega)
  have HRM := Lib.hid (read_ref (B s) k fo (by rw [← size_B]; exact hk))
  have HST := Lib.hid (fun (sub : ByteArray) (w : World) (h : sub.size ≤ 140737488355328) => rstartsN s k w sub hs h hk)
  have HK := Lib.hid hk
  have HKL := Lib.hid (show k ≤ (B s).length by rw [← size_B]; exact hk)
  clear hout hs hwh
  obtain ⟨p1, hp1⟩ : ∃ b, startsL (B s) beginA k = b := ⟨_, rfl⟩
  have H1 := Lib.hid (fun w => HST.out ⟨#[60, 33, 45, 45]⟩ w (by decide))
  rw [show B ⟨#[60, 33, 45, 45]⟩ = beginA from rfl, hp1] at H1
  have L1 := Lib.hid (fun h : p1 = true => starts_len HKL.out (hp1.trans h))
  rw [← size_B] at L1
  have HP1 := Lib.hid hp1
  rw [hp1] at HRM
  clear hp1
  obtain ⟨p3, hp3⟩ : ∃ b, startsL (B s) beginC k = b := ⟨_, rfl⟩
  have H3 := Lib.hid (fun w => HST.out ⟨#[60, 33, 91, 67, 68, 65, 84, 65, 91]⟩ w (by decide))
  rw [show B ⟨#[60, 33, 91, 67, 68, 65, 84, 65, 91]⟩ = beginC from rfl, hp3] at H3
  have L3 := Lib.hid (fun h : p3 = true => starts_len HKL.out (hp3.trans h))
  rw [← size_B] at L3
  have HP3 := Lib.hid hp3
  rw [hp3] at HRM
  clear hp3
  obtain ⟨p4, hp4⟩ : ∃ b, startsL (B s) [60, 33] k = b := ⟨_, rfl⟩
  have H4 := Lib.hid (fun w => HST.out ⟨#[60, 33]⟩ w (by decide))
  rw [show B ⟨#[60, 33]⟩ = [60, 33] from rfl, hp4] at H4
  have L4 := Lib.hid (fun h : p4 = true => starts_len HKL.out (hp4.trans h))
  rw [← size_B] at L4
  have HP4 := Lib.hid hp4
  rw [hp4] at HRM
  clear hp4
  obtain ⟨p5, hp5⟩ : ∃ b, startsL (B s) [60, 63] k = b := ⟨_, rfl⟩
  have H5 := Lib.hid (fun w => HST.out ⟨#[60, 63]⟩ w (by decide))
  rw [show B ⟨#[60, 63]⟩ = [60, 63] from rfl, hp5] at H5
  have L5 := Lib.hid (fun h : p5 = true => starts_len HKL.out (hp5.trans h))
  rw [← size_B] at L5
  have HP5 := Lib.hid hp5
  rw [hp5] at HRM
  clear hp5
  obtain ⟨p6, hp6⟩ : ∃ b, startsL (B s) [60, 47, 62] k = b := ⟨_, rfl⟩
  have H6 := Lib.hid (fun w => HST.out ⟨#[60, 47, 62]⟩ w (by decide))
  rw [show B ⟨#[60, 47, 62]⟩ = [60, 47, 62] from rfl, hp6] at H6
  have L6 := Lib.hid (fun h : p6 = true => starts_len HKL.out (hp6.trans h))
  rw [← size_B] at L6
  have HP6 := Lib.hid hp6
  rw [hp6] at HRM
  clear hp6
  obtain ⟨p7, hp7⟩ : ∃ b, startsL (B s) [60, 47] k = b := ⟨_, rfl⟩
  have H7 := Lib.hid (fun w => HST.out ⟨#[60, 47]⟩ w (by decide))
  rw [show B ⟨#[60, 47]⟩ = [60, 47] from rfl, hp7] at H7
  have L7 := Lib.hid (fun h : p7 = true => starts_len HKL.out (hp7.trans h))
  rw [← size_B] at L7
  have HP7 := Lib.hid hp7
  rw [hp7] at HRM
  clear hp7
  go_enter Tryz.func31, Tryz.ntmps31
  go_wp2_with fail
  rw [show w.alloc (.cells #[.int .i64 0, .string ⟨#[]⟩, .slice none 0 0, .bool false, .string ⟨#[]⟩] 44) = w0 from hw0.symm]
  clear hw0
  refine (H6.out _).mono ?_
  rintro e w' ⟨rfl, rfl⟩
  cases p6
  rotate_left
  · have hrm := HRM.out
    simp only [if_true] at hrm
    have HR9 := Lib.hid hrm
    have s9 : IntKind.i64.wrap ((k : Int) + 3) = (k : Int) + 3 := IntWalk.i64_in _ (by have := HSZ.out; have := HK.out; omega)
    clear hrm
    go_wp2_with fail
    refine bodyPost_ret (v := .tuple #[.agg #[.int .i64 0, .string ⟨#[]⟩, .slice none 0 0, .bool false, .string ⟨#[]⟩], .int .i64 ((k : Int) + 3), .bool true]) (by simp [results, Tryz.results31, go_sem, z0, z1, z2, z3, z4]) rfl ⟨ret_mark ?_, set5_below HB0.out (Nat.le_refl _) _ _ _ _ _⟩
    rw [HR9.out]
    simp [valM, tkM, noTm, S_nil]
  go_wp2_with fail
  refine (H7.out _).mono ?_
  rintro e w' ⟨rfl, rfl⟩
  cases p7
  rotate_left
  · have hl : k + 2 ≤ s.size := L7.out rfl
    have s9 : IntKind.i64.wrap ((k : Int) + 2) = (k : Int) + 2 := IntWalk.i64_in _ (by have := HSZ.out; omega)
    have hbo := rbogus_any s (k + 2) w0 HSZ.out hl
    rw [show ((k + 2 : Nat) : Int) = (k : Int) + 2 by omega] at hbo
    have HBO := Lib.hid hbo
    clear hbo
    cases hn : noLetterAt (B s) (k + 2)
    · have hrm := HRM.out
      rw [hn] at hrm
      simp only [Bool.false_eq_true, if_false, if_true] at hrm
      have HR9 := Lib.hid hrm
      clear hrm
      by_cases hlt : k + 2 < s.size
      · have hna : Hid (noLetterAt (B s) (k + 2) = !letterB s[k + 2]) := by show _ = _; unfold noLetterAt; rw [B_at s (k + 2) hlt]
        have hle : letterB s[k + 2] = true := by have := hna.out; rw [hn] at this; simpa using this.symm
        have hcl := rletter_rune s[k + 2] w0
        rw [hle] at hcl
        have HCL := Lib.hid hcl
        have d5 : (((k : Int) + 2) == (s.size : Int)) = false := by rw [beq_eq_false_iff_ne]; omega
        have s10 : ((k : Int) + 2).toNat = k + 2 := by omega
        have s11 : (0 : Int) ≤ (k : Int) + 2 := by omega
        have s12 : (k : Int) + 2 < (s.size : Int) := by omega
        clear hna hle hcl hn
        go_wp2_with fail
        refine HCL.out.mono ?_
        rintro e w' ⟨rfl, rfl⟩
        go_wp2_with fail
        refine bodyPost_ret (v := .tuple #[.agg #[.int .i64 0, .string ⟨#[]⟩, .slice none 0 0, .bool false, .string ⟨#[]⟩], .int .i64 (k : Int), .bool false]) (by simp [results, Tryz.results31, go_sem, z0, z1, z2, z3, z4]) rfl ⟨ret_mark ?_, set5_below HB0.out (Nat.le_refl _) _ _ _ _ _⟩
        rw [HR9.out]
        simp [valM, tkM, noTm, S_nil]
      · have d5 : (((k : Int) + 2) == (s.size : Int)) = true := by rw [beq_iff_eq]; omega
        clear hn
        go_wp2_with fail
        refine bodyPost_ret (v := .tuple #[.agg #[.int .i64 0, .string ⟨#[]⟩, .slice none 0 0, .bool false, .string ⟨#[]⟩], .int .i64 (k : Int), .bool false]) (by simp [results, Tryz.results31, go_sem, z0, z1, z2, z3, z4]) rfl ⟨ret_mark ?_, set5_below HB0.out (Nat.le_refl _) _ _ _ _ _⟩
        rw [HR9.out]
        simp [valM, tkM, noTm, S_nil]
    · have hrm := HRM.out
      rw [hn] at hrm
      simp only [Bool.false_eq_true, if_false, if_true] at hrm
      have HR9 := Lib.hid hrm
      clear hrm
      have hlt : k + 2 < s.size := by
        rcases Nat.lt_or_ge (k + 2) s.size with h | h
        · exact h
        · unfold noLetterAt at hn
          rw [List.getElem?_eq_none (by rw [← size_B]; exact h)] at hn
          exact absurd hn (by decide)
      have hna : Hid (noLetterAt (B s) (k + 2) = !letterB s[k + 2]) := by show _ = _; unfold noLetterAt; rw [B_at s (k + 2) hlt]
      have hle : letterB s[k + 2] = false := by have := hna.out; rw [hn] at this; simpa using this.symm
      have hcl := rletter_rune s[k + 2] w0
      rw [hle] at hcl
      have HCL := Lib.hid hcl
      have d5 : (((k : Int) + 2) == (s.size : Int)) = false := by rw [beq_eq_false_iff_ne]; omega
      have s10 : ((k : Int) + 2).toNat = k + 2 := by omega
      have s11 : (0 : Int) ≤ (k : Int) + 2 := by omega
      have s12 : (k : Int) + 2 < (s.size : Int) := by omega
      clear hna hle hcl hn
      go_wp2_with fail
      refine HCL.out.mono ?_
      rintro e w' ⟨rfl, rfl⟩
      generalize rubbishM (B s) (k + 2) = r at *
      obtain ⟨⟨rk, rn, rt⟩, ri, rb⟩ := r
      go_wp2_with fail
      refine HBO.out.mono ?_
      rintro e w9 ⟨rfl, b9⟩
      obtain ⟨y0, y1, y2, y3, y4, g0, g1, g2, g3, g4⟩ := var_tok (HZ.out.keep b9)
      have HB9 := Lib.hid (below_then HB0.out HB0.out.size b9)
      clear b9
      simp only [valM, tkM]
      go_wp2_with fail
      refine bodyPost_ret (v := valM (⟨rk, rn, rt⟩, ri, rb)) (by simp [results, Tryz.results31, go_sem, y0, y1, y2, y3, y4, valM, tkM]) rfl ⟨by rw [HR9.out], set5_below HB9.out (Nat.le_refl _) _ _ _ _ _⟩
  go_wp2_with fail
  refine (H5.out _).mono ?_
  rintro e w' ⟨rfl, rfl⟩
  cases p5
  rotate_left
  · have hl : k + 2 ≤ s.size := L5.out rfl
    have hc := rbogus_any s (k + 1) w0 HSZ.out (by omega)
    have hrm := HRM.out
    simp only [Bool.false_eq_true, if_false, if_true] at hrm
    rw [show ((k + 1 : Nat) : Int) = (k : Int) + 1 by omega] at hc
    have s9 : IntKind.i64.wrap ((k : Int) + 1) = (k : Int) + 1 := IntWalk.i64_in _ (by have := HSZ.out; have := HK.out; omega)
    have HR9 := Lib.hid hrm
    generalize rubbishM (B s) (k + 1) = r at *
    obtain ⟨⟨rk, rn, rt⟩, ri, rb⟩ := r
    have HC := Lib.hid hc
    clear hrm hc
    go_wp2_with fail
    refine HC.out.mono ?_
    rintro e w9 ⟨rfl, b9⟩
    obtain ⟨y0, y1, y2, y3, y4, g0, g1, g2, g3, g4⟩ := var_tok (HZ.out.keep b9)
    have HB9 := Lib.hid (below_then HB0.out HB0.out.size b9)
    clear b9
    simp only [valM, tkM]
    go_wp2_with fail
    refine bodyPost_ret (v := valM (⟨rk, rn, rt⟩, ri, rb)) (by simp [results, Tryz.results31, go_sem, y0, y1, y2, y3, y4, valM, tkM]) rfl ⟨by rw [HR9.out], set5_below HB9.out (Nat.le_refl _) _ _ _ _ _⟩
  go_wp2_with fail
  refine (H4.out _).mono ?_
  rintro e w' ⟨rfl, rfl⟩
  cases p4
  · have hrm := HRM.out
    simp only [Bool.false_eq_true, if_false, if_true] at hrm
    have HR9 := Lib.hid hrm
    clear hrm
    go_wp2_with fail
    refine bodyPost_ret (v := .tuple #[.agg #[.int .i64 0, .string ⟨#[]⟩, .slice none 0 0, .bool false, .string ⟨#[]⟩], .int .i64 (k : Int), .bool false]) (by simp [results, Tryz.results31, go_sem, z0, z1, z2, z3, z4]) rfl ⟨ret_mark ?_, set5_below HB0.out (Nat.le_refl _) _ _ _ _ _⟩
    rw [HR9.out]
    simp [valM, tkM, noTm, S_nil]
  have hl2 : k + 2 ≤ s.size := L4.out rfl
  go_wp2_with fail
  refine (H1.out _).mono ?_
  rintro e w' ⟨rfl, rfl⟩
  cases p1
  rotate_left
  · have hl : k + 4 ≤ s.size := L1.out rfl
    have hc := rcomment_any s (k + 4) w0 HSZ.out hl
    have hrm := HRM.out
    simp only [Bool.false_eq_true, if_false, if_true, Bool.true_eq_false] at hrm
    rw [show ((k + 4 : Nat) : Int) = (k : Int) + 4 by omega] at hc
    have s9 : IntKind.i64.wrap ((k : Int) + 4) = (k : Int) + 4 := IntWalk.i64_in _ (by have := HSZ.out; have := HK.out; omega)
    have HR9 := Lib.hid hrm
    generalize commentM (B s) (k + 4) = r at *
    obtain ⟨⟨rk, rn, rt⟩, ri, rb⟩ := r
    have HC := Lib.hid hc
    clear hrm hc
    go_wp2_with fail
    refine HC.out.mono ?_
    rintro e w9 ⟨rfl, b9⟩
    obtain ⟨y0, y1, y2, y3, y4, g0, g1, g2, g3, g4⟩ := var_tok (HZ.out.keep b9)
    have HB9 := Lib.hid (below_then HB0.out HB0.out.size b9)
    clear b9
    simp only [valM, tkM]
    go_wp2_with fail
    refine bodyPost_ret (v := valM (⟨rk, rn, rt⟩, ri, rb)) (by simp [results, Tryz.results31, go_sem, y0, y1, y2, y3, y4, valM, tkM]) rfl ⟨by rw [HR9.out], set5_below HB9.out (Nat.le_refl _) _ _ _ _ _⟩
  have hfo := rfold_any s ⟨#[100, 111, 99, 116, 121, 112, 101]⟩ ((k : Int) + 2) w0 (by have := HSZ.out; omega) (by decide)
  rw [show (k : Int) + 2 = ((k + 2 : Nat) : Int) by omega, clampN_nat (k + 2) s.size hl2, show B ⟨#[100, 111, 99, 116, 121, 112, 101]⟩ = wordD from rfl, show ((k + 2 : Nat) : Int) = (k : Int) + 2 by omega] at hfo
  have s2 : IntKind.i64.wrap ((k : Int) + 2) = (k : Int) + 2 := IntWalk.i64_in _ (by have := HSZ.out; omega)
  have s9 : IntKind.i64.wrap ((k : Int) + 9) = (k : Int) + 9 := IntWalk.i64_in _ (by have := HSZ.out; omega)
  obtain ⟨p2, hp2⟩ : ∃ b, foldL (B s) wordD (k + 2) = b := ⟨_, rfl⟩
  rw [hp2] at hfo HRM
  have hL2 : p2 = true → k + 9 ≤ s.size := fun h => by
    have := fold_len (show k + 2 ≤ (B s).length by rw [← size_B]; exact hl2) (hp2.trans h)
    rw [← size_B] at this
    exact this
  have L2 := Lib.hid hL2
  have HFO := Lib.hid hfo
  clear hfo hp2 hL2
  go_wp2_with fail
  refine HFO.out.mono ?_
  rintro e w2 ⟨rfl, b2⟩
  have HB2 := Lib.hid (below_then HB0.out HB0.out.size b2)
  have HZ2 := Lib.hid (HZ.out.keep b2)
  clear b2 z0 z1 z2 z3 z4 f0 f1 f2 f3 f4
  obtain ⟨z0, z1, z2, z3, z4, f0, f1, f2, f3, f4⟩ := var_tok HZ2.out
  cases p2
  rotate_left
  · have hl : k + 9 ≤ s.size := L2.out rfl
    have hrm := HRM.out
    simp only [Bool.false_eq_true, if_false, if_true, Bool.true_eq_false] at hrm
    have HSK := Lib.hid (fun w => rskip_any s ((k : Int) + 9) w (by have := HSZ.out; omega))
    rw [show (k : Int) + 9 = ((k + 9 : Nat) : Int) by omega, clampN_nat (k + 9) s.size hl, show ((k + 9 : Nat) : Int) = (k : Int) + 9 by omega] at HSK
    have h1 := stopL_ge spaceB (B s) (k + 9)
    have h2 := stopL_le spaceB (B s) (k + 9) (by rw [← size_B]; exact hl)
    rw [← size_B] at h2
    rw [show stopL spaceB (B s) (k + 9) = skipL (B s) (k + 9) from rfl] at h1 h2
    unfold doctypeM behindL at hrm
    generalize skipL (B s) (k + 9) = f at *
    have HUN := Lib.hid (fun w => runtil_any s (f : Int) ⟨#[9, 10, 12, 13, 32, 62]⟩ w (by have := HSZ.out; omega) (by decide))
    rw [clampN_nat f s.size h2, show B ⟨#[9, 10, 12, 13, 32, 62]⟩ = endD from rfl] at HUN
    have h3 := stopL_ge (fun c => !hasB endD c) (B s) f
    have h4 := stopL_le (fun c => !hasB endD c) (B s) f (by rw [← size_B]; exact h2)
    rw [← size_B] at h4
    rw [show stopL (fun c => !hasB endD c) (B s) f = untilL (B s) endD f from rfl] at h3 h4
    generalize untilL (B s) endD f = t at *
    have HFI := Lib.hid (fun w => rfindN s t w ⟨#[62]⟩ HSZ.out (by decide) h4)
    rw [show B ⟨#[62]⟩ = [62] from rfl] at HFI
    have h5 := findL_ge (B s) [62] t (by rw [← size_B]; exact h4)
    have h6 := findL_le (B s) [62] t (by rw [← size_B]; exact h4)
    rw [← size_B] at h6 hrm
    generalize findL (B s) [62] t = g at *
    have HR9 := Lib.hid hrm
    clear hrm
    go_wp2_with fail
    refine (HSK.out _).mono ?_
    rintro e w' ⟨rfl, rfl⟩
    go_wp2_with fail
    refine (HUN.out _).mono ?_
    rintro e w' ⟨rfl, rfl⟩
    go_wp2_with fail
    refine (rlower_any (s.extract f t) _ (by have := size_extract_le s f t; have := HSZ.out; omega)).mono ?_
    rintro e w3 ⟨rfl, b3⟩
    have hZ3 := HZ2.out.keep b3
    have hB3 := below_then HB2.out HB2.out.size b3
    clear b3 z0 z1 z2 z3 z4 f0 f1 f2 f3 f4
    have hN := Blk.new w3 44 #[.int .i64 1, .string (S (lowL (B (s.extract f t)))), .slice none 0 0, .bool false, .string ⟨#[]⟩] (0, 0)
    have hB4 := hB3.alloc hB3.size (.cells #[.int .i64 1, .string (S (lowL (B (s.extract f t)))), .slice none 0 0, .bool false, .string ⟨#[]⟩] 44)
    have hZ4 := hZ3.keep ((Below.refl w3.heap.size w3).alloc (Nat.le_refl _) (.cells #[.int .i64 1, .string (S (lowL (B (s.extract f t)))), .slice none 0 0, .bool false, .string ⟨#[]⟩] 44))
    clear hZ3 hB3
    go_wp2_with fail
    obtain ⟨w4, hw4⟩ : ∃ w4, w4 = w3.alloc (.cells #[.int .i64 1, .string (S (lowL (B (s.extract f t)))), .slice none 0 0, .bool false, .string ⟨#[]⟩] 44) := ⟨_, rfl⟩
    rw [← hw4] at hN hB4 hZ4
    rw [show w3.alloc (.cells #[.int .i64 1, .string (S (lowL (B (s.extract f t)))), .slice none 0 0, .bool false, .string ⟨#[]⟩] 44) = w4 from hw4.symm]
    have n0 : w4.cell? ⟨w3.heap.size, 0, none⟩ = some (.int .i64 1) := hN.cell 0
    have n1 : w4.cell? ⟨w3.heap.size, 1, none⟩ = some (.string (S (lowL (B (s.extract f t))))) := hN.cell 1
    have n2 : w4.cell? ⟨w3.heap.size, 2, none⟩ = some (.slice none 0 0) := hN.cell 2
    have n3 : w4.cell? ⟨w3.heap.size, 3, none⟩ = some (.bool false) := hN.cell 3
    have n4 : w4.cell? ⟨w3.heap.size, 4, none⟩ = some (.string ⟨#[]⟩) := hN.cell 4
    obtain ⟨z0, z1, z2, z3, z4, f0, f1, f2, f3, f4⟩ := var_tok hZ4
    have HB4 := Lib.hid hB4
    clear hw4 hN hB4 hZ4
    refine (HFI.out _).mono ?_
    rintro e w' ⟨rfl, rfl⟩
    by_cases hg : g < s.size
    · have dg : decide ((g : Int) < (s.size : Int)) = true := decide_eq_true (by omega)
      have sw : wrap64 ((g : Int) + 1) = (g : Int) + 1 := IntWalk.wrap64_in _ (by have := HSZ.out; omega)
      go_wp2_with fail
      refine bodyPost_ret (v := .tuple #[.agg #[.int .i64 1, .string (S (lowL (B (s.extract f t)))), .slice none 0 0, .bool false, .string ⟨#[]⟩], .int .i64 ((g : Int) + 1), .bool true]) (by simp [results, Tryz.results31, go_sem, z0, z1, z2, z3, z4, sw]) rfl
        ⟨ret_mark ?_, set5_below HB4.out (Nat.le_refl _) _ _ _ _ _⟩
      rw [HR9.out, B_piece, Nat.min_eq_left (by omega)]
      simp [valM, tkM, S_nil, pieceL]
    · have dg : decide ((g : Int) < (s.size : Int)) = false := decide_eq_false (by omega)
      go_wp2_with fail
      refine bodyPost_ret (v := .tuple #[.agg #[.int .i64 1, .string (S (lowL (B (s.extract f t)))), .slice none 0 0, .bool false, .string ⟨#[]⟩], .int .i64 (g : Int), .bool true]) (by simp [results, Tryz.results31, go_sem, z0, z1, z2, z3, z4]) rfl
        ⟨ret_mark ?_, set5_below HB4.out (Nat.le_refl _) _ _ _ _ _⟩
      rw [HR9.out, B_piece, Nat.min_eq_right (by omega), show s.size = g by omega]
      simp [valM, tkM, S_nil, pieceL]
  go_upto_region 23 with (fail)
  go_cut [115] (fun s115 wx => s115 = .bool (fo && p3) ∧ wx = w2)
  case first =>
    cases fo
    · go_wp2_with fail
      go_meet
      exact ⟨rfl, rfl⟩
    · go_wp2_with fail
      refine (H3.out _).mono ?_
      rintro e w' ⟨rfl, rfl⟩
      go_wp2_with fail
      go_meet
      exact ⟨rfl, rfl⟩
  case rest =>
  obtain ⟨rfl, rfl⟩ := hcut
  have L3f := Lib.hid (fun h : (fo && p3) = true => L3.out (by rw [Bool.and_eq_true] at h; exact h.2))
  generalize (fo && p3) = p3f at *
  cases p3f
  · skip
    have hc := rbogus_any s (k + 2) wc HSZ.out hl2
    have hrm := HRM.out
    simp only [Bool.false_eq_true, if_false, Bool.true_eq_false] at hrm
    rw [show ((k + 2 : Nat) : Int) = (k : Int) + 2 by omega] at hc
    have s9 : IntKind.i64.wrap ((k : Int) + 2) = (k : Int) + 2 := IntWalk.i64_in _ (by have := HSZ.out; have := HK.out; omega)
    have HR9 := Lib.hid hrm
    generalize rubbishM (B s) (k + 2) = r at *
    obtain ⟨⟨rk, rn, rt⟩, ri, rb⟩ := r
    have HC := Lib.hid hc
    clear hrm hc
    go_wp2_with fail
    refine HC.out.mono ?_
    rintro e w9 ⟨rfl, b9⟩
    obtain ⟨y0, y1, y2, y3, y4, g0, g1, g2, g3, g4⟩ := var_tok (HZ2.out.keep b9)
    have HB9 := Lib.hid (below_then HB2.out HB2.out.size b9)
    clear b9
    simp only [valM, tkM]
    go_wp2_with fail
    refine bodyPost_ret (v := valM (⟨rk, rn, rt⟩, ri, rb)) (by simp [results, Tryz.results31, go_sem, y0, y1, y2, y3, y4, valM, tkM]) rfl ⟨by rw [HR9.out], set5_below HB9.out (Nat.le_refl _) _ _ _ _ _⟩
  · have hl : k + 9 ≤ s.size := L3f.out rfl
    have hrm := HRM.out
    simp only [Bool.false_eq_true, if_false, if_true, Bool.true_eq_false] at hrm
    unfold dataM at hrm
    have HFI := Lib.hid (fun w => rfindN s (k + 9) w ⟨#[93, 93, 62]⟩ HSZ.out (by decide) hl)
    rw [show B ⟨#[93, 93, 62]⟩ = endC from rfl, show ((k + 9 : Nat) : Int) = (k : Int) + 9 by omega] at HFI
    have h5 := findL_ge (B s) endC (k + 9) (by rw [← size_B]; exact hl)
    have h6 := findL_le (B s) endC (k + 9) (by rw [← size_B]; exact hl)
    have h7 := (findL_cases (B s) endC (k + 9) (by rw [← size_B]; exact hl)).1
    have h8 : findL (B s) endC (k + 9) = s.size ∨ findL (B s) endC (k + 9) + 3 ≤ s.size := by
      rcases h7 with h7 | h7
      · have := starts_len h6 h7
        rw [← size_B] at this
        exact .inr this
      · exact .inl (by rw [h7, size_B])
    clear h7
    rw [← size_B] at h6 hrm
    generalize findL (B s) endC (k + 9) = g at *
    have HR9 := Lib.hid hrm
    clear hrm z0 z1 z2 z3 z4 f0 f1 f2 f3 f4
    have hB4 := HB2.out.alloc HB2.out.size (.cells #[.int .i64 4, .string ⟨#[]⟩, .slice none 0 0, .bool false, .string (s.extract (k + 9) g)] 44)
    have hB5 := HB2.out.alloc HB2.out.size (.cells #[.int .i64 0, .string ⟨#[]⟩, .slice none 0 0, .bool false, .string ⟨#[]⟩] 44)
    have hZ4 := HZ2.out.keep ((Below.refl wc.heap.size wc).alloc (Nat.le_refl _) (.cells #[.int .i64 4, .string ⟨#[]⟩, .slice none 0 0, .bool false, .string (s.extract (k + 9) g)] 44))
    have hZ5 := HZ2.out.keep ((Below.refl wc.heap.size wc).alloc (Nat.le_refl _) (.cells #[.int .i64 0, .string ⟨#[]⟩, .slice none 0 0, .bool false, .string ⟨#[]⟩] 44))
    have HB4 := Lib.hid hB4
    have HB5 := Lib.hid hB5
    clear hB4 hB5
    have s11 : ((k : Int) + 9).toNat = k + 9 := by omega
    by_cases he : g = k + 9
    · have sw : wrap64 ((k : Int) + 9 + 3) = (k : Int) + 9 + 3 := IntWalk.wrap64_in _ (by have := HSZ.out; omega)
      have de : ((g : Int) == (k : Int) + 9) = true := by rw [beq_iff_eq]; omega
      obtain ⟨z0, z1, z2, z3, z4, f0, f1, f2, f3, f4⟩ := var_tok hZ5
      clear hZ4 hZ5
      by_cases hg : g < s.size
      · have dg : decide ((g : Int) < (s.size : Int)) = true := decide_eq_true (by omega)
        go_wp2_with fail
        refine (HFI.out _).mono ?_
        rintro e w' ⟨rfl, rfl⟩
        go_wp2_with fail
        refine bodyPost_ret (v := .tuple #[.agg #[.int .i64 0, .string ⟨#[]⟩, .slice none 0 0, .bool false, .string ⟨#[]⟩], .int .i64 ((k : Int) + 9 + 3), .bool true]) (by simp [results, Tryz.results31, go_sem, z0, z1, z2, z3, z4, sw]) rfl
          ⟨ret_mark ?_, set5_below HB5.out (Nat.le_refl _) _ _ _ _ _⟩
        rw [HR9.out, if_pos he, Nat.min_eq_left (by omega), show ((g + 3 : Nat) : Int) = (k : Int) + 9 + 3 by omega]
        simp [valM, tkM, noTm, S_nil]
      · have dg : decide ((g : Int) < (s.size : Int)) = false := decide_eq_false (by omega)
        go_wp2_with fail
        refine (HFI.out _).mono ?_
        rintro e w' ⟨rfl, rfl⟩
        go_wp2_with fail
        refine bodyPost_ret (v := .tuple #[.agg #[.int .i64 0, .string ⟨#[]⟩, .slice none 0 0, .bool false, .string ⟨#[]⟩], .int .i64 ((k : Int) + 9), .bool true]) (by simp [results, Tryz.results31, go_sem, z0, z1, z2, z3, z4]) rfl
          ⟨ret_mark ?_, set5_below HB5.out (Nat.le_refl _) _ _ _ _ _⟩
        rw [HR9.out, if_pos he, Nat.min_eq_right (by omega), show (s.size : Int) = (k : Int) + 9 by omega]
        simp [valM, tkM, noTm, S_nil]
    · have sw : wrap64 ((g : Int) + 3) = (g : Int) + 3 := IntWalk.wrap64_in _ (by have := HSZ.out; omega)
      have de : ((g : Int) == (k : Int) + 9) = false := by rw [beq_eq_false_iff_ne]; omega
      obtain ⟨z0, z1, z2, z3, z4, f0, f1, f2, f3, f4⟩ := var_tok hZ4
      clear hZ4 hZ5
      by_cases hg : g < s.size
      · have dg : decide ((g : Int) < (s.size : Int)) = true := decide_eq_true (by omega)
        go_wp2_with fail
        refine (HFI.out _).mono ?_
        rintro e w' ⟨rfl, rfl⟩
        go_wp2_with fail
        refine bodyPost_ret (v := .tuple #[.agg #[.int .i64 4, .string ⟨#[]⟩, .slice none 0 0, .bool false, .string (s.extract (k + 9) g)], .int .i64 ((g : Int) + 3), .bool true]) (by simp [results, Tryz.results31, go_sem, z0, z1, z2, z3, z4, sw]) rfl
          ⟨ret_mark ?_, set5_below HB4.out (Nat.le_refl _) _ _ _ _ _⟩
        rw [HR9.out, if_neg he, Nat.min_eq_left (by omega)]
        simp [valM, tkM, S_nil, S_piece]
      · have dg : decide ((g : Int) < (s.size : Int)) = false := decide_eq_false (by omega)
        go_wp2_with fail
        refine (HFI.out _).mono ?_
        rintro e w' ⟨rfl, rfl⟩
        go_wp2_with fail
        refine bodyPost_ret (v := .tuple #[.agg #[.int .i64 4, .string ⟨#[]⟩, .slice none 0 0, .bool false, .string (s.extract (k + 9) g)], .int .i64 (g : Int), .bool true]) (by simp [results, Tryz.results31, go_sem, z0, z1, z2, z3, z4]) rfl
          ⟨ret_mark ?_, set5_below HB4.out (Nat.le_refl _) _ _ _ _ _⟩
        rw [HR9.out, if_neg he, Nat.min_eq_right (by omega), show s.size = g by omega]
        simp [valM, tkM, S_nil, S_piece]
end Go.Proofs.YtdjeajbinpgpiaaGreat
