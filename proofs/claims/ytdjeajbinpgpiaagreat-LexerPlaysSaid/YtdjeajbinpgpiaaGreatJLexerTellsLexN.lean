/- The lexer: Next. -/
import Derived.Test.YtdjeajbinpgpiaaGreatJLexerTellsLexR
namespace Go.Proofs.YtdjeajbinpgpiaaGreat
open Go.RowKit Go.BigFrame

theorem nextL_raw (x : List UInt8) (s : Lx) (h : ¬ x.length ≤ s.at_) (hm : s.mode = 2 ∨ s.mode = 3) : nextL x s = rawTok x s := by
  unfold nextL rawTok
  rw [if_neg h, if_pos hm]
set_option maxHeartbeats 8000000 in
set_option maxRecDepth 100000 in
theorem lnext_any (p : Nat) (x : ByteArray) (s : Lx) (w : World) (h : LexAt w p x s) (ho : LexOk w x s) :
    Calls Tryz.prog 16 #[.pointer (some ⟨p, 0, none⟩)] w (TokTo w p x (nextL (B x) s).1 (nextL (B x) s).2) := by
  have hplt : p < w.heap.size := Blk.lt h
  have hxs := ho.size
  have hal := ho.at_
  have hlen : (B x).length = x.size := (size_B x).symm
  have hnx : nextL (B x) s = if x.size ≤ s.at_ then (eofT, s) else if s.mode = 2 ∨ s.mode = 3 then rawTok (B x) s else if s.mode = 4 then (txtT ((B x).drop s.at_), { s with at_ := x.size }) else ((dataX (B x) s.fo s.at_).1, afterL s (dataX (B x) s.fo s.at_)) := by
    unfold nextL rawTok; rw [hlen]
  have HO := Lib.hid ho
  have HLX := Lib.hid h
  have hb0 := below_tokG w #[.int .i64 0, .string ⟨#[]⟩, .slice none 0 0, .bool false, .string ⟨#[]⟩]
  have hz := Blk.new w 44 #[.int .i64 0, .string ⟨#[]⟩, .slice none 0 0, .bool false, .string ⟨#[]⟩] (0, 0)
  obtain ⟨w1, hw1⟩ : ∃ w1, w1 = w.alloc (.cells #[.int .i64 0, .string ⟨#[]⟩, .slice none 0 0, .bool false, .string ⟨#[]⟩] 44) := ⟨_, rfl⟩
  have HW1 := Lib.hid hw1.symm
  have hsz1 : w1.heap.size = w.heap.size + 1 := by rw [hw1]; simp
  rw [← hw1] at hb0 hz
  have hDA : DataAt w w1 p x s s.at_ := ⟨h.keep hb0, But.of_below hb0, hplt, by omega, hz⟩
  have HDA := Lib.hid hDA
  have HNX := Lib.hid hnx
  have cc0 : ∀ n : After w1, n.W.cell? ⟨p, 0, none⟩ = some (.string x) := fun n => (after_data hDA n).1
  have cc1 : ∀ n : After w1, n.W.cell? ⟨p, 1, none⟩ = some (.int .i64 (s.at_ : Int)) := fun n => (after_data hDA n).2.1
  obtain ⟨NX, hNX⟩ : ∃ r, nextL (B x) s = r := ⟨_, rfl⟩
  rw [hNX] at HNX ⊢
  clear h ho hb0 hz hDA hw1 hNX hnx hlen
  by_cases hge : x.size ≤ s.at_
  · have d0 : decide ((s.at_ : Int) ≥ (x.size : Int)) = true := decide_eq_true (by omega)
    have HSX := Lib.hid (show NX = (eofT, s) by have := HNX.out; rwa [if_pos hge] at this)
    go_enter Tryz.func16, Tryz.ntmps16
    go_upto_region 1 with (fail)
    rw [HW1.out]
    refine wp_region_after (by kernel_rfl) (by kernel_rfl) ?_
    repeat (any_goals (go_big_quiet_step (fail)))
    refine wpQuiet_nil ?_
    rintro w' ⟨n1, rfl⟩
    have HD := Lib.hid (HDA.out.keep n1.below)
    clear cc0 cc1
    generalize n1.W = w3 at *
    have hres := HD.out.res
    have hlex : LexAt w3 p x s := HD.out.lex
    have hbut := HD.out.but
    have hrow := RowA.nil w3 0
    obtain ⟨_, _, _, _, _, y0, y1, y2, y3, y4⟩ := cells_tokG hres
    have hz5 := set5_tokG hres hrow (.int .i64 6) (.string ⟨#[]⟩) (.slice none 0 0) (.bool false) (.string ⟨#[]⟩)
    have hl5 := set5_lexT hlex (b := w.heap.size) (by omega) (.int .i64 6) (.string ⟨#[]⟩) (.slice none 0 0) (.bool false) (.string ⟨#[]⟩)
    have hb5 := set5_butT hbut (b := w.heap.size) (Nat.le_refl _) (.int .i64 6) (.string ⟨#[]⟩) (.slice none 0 0) (.bool false) (.string ⟨#[]⟩)
    have HZ5 := Lib.hid hz5.1
    have HR5 := Lib.hid hz5.2
    have HL5 := Lib.hid hl5
    have HB5 := Lib.hid hb5
    clear hz5 hl5 hb5 hres hlex hbut hrow
    go_wp2_with fail
    refine bodyPost_ret (v := .agg #[.int .i64 6, .string ⟨#[]⟩, .slice none 0 0, .bool false, .string ⟨#[]⟩]) (results_cell_row (fn := Tryz.f16) (p := 2) rfl _ _ w.heap.size _ #[.int .i64 6, .string ⟨#[]⟩, .slice none 0 0, .bool false, .string ⟨#[]⟩] (0, 0) _ (by rfl) HZ5.out Tryz.underlying44 (by rfl) (by kernel_rfl)) rfl ?_
    rw [HSX.out]
    exact ⟨none, 0, rfl, HR5.out, HL5.out, HB5.out⟩
  · have d0 : decide ((s.at_ : Int) ≥ (x.size : Int)) = false := decide_eq_false (by omega)
    have hnx := HNX.out
    rw [if_neg hge] at hnx
    have HNY := Lib.hid hnx
    clear HNX hnx
    go_enter Tryz.func16, Tryz.ntmps16
    go_upto_region 1 with (fail)
    rw [HW1.out]
    refine wp_region_after (by kernel_rfl) (by kernel_rfl) ?_
    repeat (any_goals (go_big_quiet_step (fail)))
    refine wpQuiet_nil ?_
    rintro w' ⟨n1, rfl⟩
    have HD := Lib.hid (HDA.out.keep n1.below)
    clear cc0 cc1
    generalize n1.W = w3 at *
    have hok : LexOk w3 x s := dataAt_ok HD.out HLX.out HO.out hal
    have hlx3 : LexAt w3 p x s := HD.out.lex
    obtain ⟨k0, k1, k2, _⟩ := hlx3.cells
    have hcase : (s.mode = 2 ∨ s.mode = 3) ∨ (s.mode = 4 ∧ (s.mode == 2) = false ∧ (s.mode == 3) = false) ∨ ((s.mode == 2) = false ∧ (s.mode == 3) = false ∧ (s.mode == 4) = false) := by
      by_cases h2 : s.mode = 2
      · exact .inl (.inl h2)
      by_cases h3 : s.mode = 3
      · exact .inl (.inr h3)
      by_cases h4 : s.mode = 4
      · exact .inr (.inl ⟨h4, beq_eq_false_iff_ne.2 h2, beq_eq_false_iff_ne.2 h3⟩)
      · exact .inr (.inr ⟨beq_eq_false_iff_ne.2 h2, beq_eq_false_iff_ne.2 h3, beq_eq_false_iff_ne.2 h4⟩)
    rcases hcase with hm | ⟨hm, d2, d3⟩ | ⟨d2, d3, d4⟩
    · have HSX := Lib.hid (show NX = rawTok (B x) s by have := HNY.out; rwa [if_pos hm] at this)
      have HRW := Lib.hid (lraw_any p x s w3 hlx3 hok)
      generalize rawTok (B x) s = rt at *
      obtain ⟨⟨tk, tn, ta, tsf, tt⟩, s2⟩ := rt
      unfold TokTo tkG at HRW
      simp only at HRW
      have hmm : (s.mode == 2) = true ∨ ((s.mode == 2) = false ∧ (s.mode == 3) = true) := by
        rcases hm with e | e
        · exact .inl (beq_iff_eq.2 e)
        · exact .inr ⟨by rw [e]; rfl, beq_iff_eq.2 e⟩
      clear hlx3 hok hm HNY
      rcases hmm with e2 | ⟨e2, e3⟩
      all_goals
        go_wp2_with fail
        refine HRW.out.mono ?_
        rintro e w5 ⟨A, c, rfl, hrow, hlex, hbt5⟩
        have hres := HD.out.res.but hbt5 (by omega)
        have hbut := HD.out.but.trans hbt5 (fun _ h => .inl h)
        obtain ⟨_, _, _, _, _, y0, y1, y2, y3, y4⟩ := cells_tokG hres
        have hz5 := set5_tokG hres hrow (.int .i64 tk) (.string tn) (.slice A ta.length c) (.bool tsf) (.string tt)
        have hl5 := set5_lexT hlex (b := w.heap.size) (by omega) (.int .i64 tk) (.string tn) (.slice A ta.length c) (.bool tsf) (.string tt)
        have hb5 := set5_butT hbut (b := w.heap.size) (Nat.le_refl _) (.int .i64 tk) (.string tn) (.slice A ta.length c) (.bool tsf) (.string tt)
        have HZ5 := Lib.hid hz5.1
        have HR5 := Lib.hid hz5.2
        have HL5 := Lib.hid hl5
        have HB5 := Lib.hid hb5
        clear hz5 hl5 hb5 hres hlex hbut hrow hbt5
        go_wp2_with fail
        refine bodyPost_ret (v := .agg #[.int .i64 tk, .string tn, .slice A ta.length c, .bool tsf, .string tt]) (results_cell_row (fn := Tryz.f16) (p := 2) rfl _ _ w.heap.size _ #[.int .i64 tk, .string tn, .slice A ta.length c, .bool tsf, .string tt] (0, 0) _ (by rfl) HZ5.out Tryz.underlying44 (by rfl) (by kernel_rfl)) rfl ?_
        rw [HSX.out]
        exact ⟨A, c, rfl, HR5.out, HL5.out, HB5.out⟩
    · have hm4 : (s.mode == 4) = true := beq_iff_eq.2 hm
      have HSX := Lib.hid (show NX = (txtT ((B x).drop s.at_), { s with at_ := x.size }) by
        have := HNY.out
        rwa [if_neg (by rw [hm]; decide), if_pos hm] at this)
      have hdr : S ((B x).drop s.at_) = x.extract s.at_ x.size := (S_drop x s.at_).symm
      obtain ⟨px, hpx⟩ : ∃ q, x.extract s.at_ x.size = q := ⟨_, rfl⟩
      have hxe := size_extract_le x s.at_ x.size
      rw [hpx] at hdr hxe
      have HDR := Lib.hid hdr
      have HCL := Lib.hid (fun W => clone_any px W (by omega))
      have i0 : (0 : Int) ≤ (s.at_ : Int) := by omega
      have i1 : (s.at_ : Int) ≤ (x.size : Int) := by omega
      have KS := Lib.hid (fun W (hW : Below w3.heap.size w3 W) => (show W.cell? ⟨p, 0, none⟩ = some (.string x) ∧ W.cell? ⟨p, 1, none⟩ = some (.int .i64 (s.at_ : Int)) from ⟨(HD.out.keep hW).lex.cells.1, (HD.out.keep hW).lex.cells.2.1⟩))
      have HDB := Lib.hid (made_drew w3)
      have HDA2 := Lib.hid (tok_alloc_below w3 #[.int .i64 0, .string ⟨#[]⟩, .slice none 0 0, .bool false, .string ⟨#[]⟩])
      have HZA := Lib.hid (show Blk (w3.alloc (.cells #[.int .i64 0, .string ⟨#[]⟩, .slice none 0 0, .bool false, .string ⟨#[]⟩] 44)).drew w3.heap.size 44 #[.int .i64 0, .string ⟨#[]⟩, .slice none 0 0, .bool false, .string ⟨#[]⟩] (0, 0) from Blk.new w3 _ _ _)
      have HCB := Lib.hid (HCL.out w3.drew)
      have HCA := Lib.hid (HCL.out (w3.alloc (.cells #[.int .i64 0, .string ⟨#[]⟩, .slice none 0 0, .bool false, .string ⟨#[]⟩] 44)).drew)
      clear hdr HCL hlx3 HNY hm
      go_upto_region 8 with (fail)
      go_cut [3] (fun s3 wx => ∃ b, s3 = .pointer (some ⟨b, 0, none⟩) ∧ Hid (Blk wx b 44 #[.int .i64 4, .string ⟨#[]⟩, .slice none 0 0, .bool false, .string px] (0, 0)) ∧ Hid (Below w3.heap.size w3 wx) ∧ Hid (w3.heap.size ≤ b))
      case first =>
        go_region_held3 (fun W => W.cell? ⟨p, 0, none⟩ = some (.string x) ∧ W.cell? ⟨p, 1, none⟩ = some (.int .i64 (s.at_ : Int)))
          (first
            | exact KS.out _ HBW.out
            | exact KS.out _ HDB.out
            | exact KS.out _ HDA2.out
            | exact KS.out _ (made_alloc HBW.out _)
            | exact KS.out _ (set5_belowG HBW.out (Nat.le_refl _) _ _ _ _ _))
          ((go_at_call 26
            first
              | (with_reducible refine HCB.out.mono ?_
                 rintro e w5 ⟨rfl, b5⟩
                 have HBW := Lib.hid (below_then HDB.out HDB.out.size b5)
                 clear b5)
              | (with_reducible refine HCA.out.mono ?_
                 rintro e w5 ⟨rfl, b5⟩
                 have HBW := Lib.hid (below_then HDA2.out HDA2.out.size b5)
                 have HZ5 := Lib.hid (HZA.out.keep b5)
                 obtain ⟨z0, z1, z2, z3, z4, f0, f1, f2, f3, f4⟩ := cells_tokG (HZA.out.keep b5)
                 clear b5)))
        all_goals
          go_wp2_with fail
          go_meet
          first
            | exact ⟨w3.heap.size, rfl, (set5_tokG HZ5.out (RowA.nil _ 0) _ _ _ _ _).1, set5_belowG HBW.out (Nat.le_refl _) _ _ _ _ _, Nat.le_refl _⟩
            | exact ⟨w5.heap.size, rfl, Blk.new w5 _ _ _, made_alloc HBW.out _, HBW.out.size⟩
      case rest =>
        obtain ⟨b, rfl, HB, HBc, HLE⟩ := hcut
        have HD2 := Lib.hid (HD.out.keep HBc.out)
        have hbs : w.heap.size + 1 ≤ b := Nat.le_trans HD.out.size HLE.out
        have HDG := Lib.hid (HD2.out.goto x.size)
        have HBG := Lib.hid (HB.out.far (p := ⟨p, 1, none⟩) (by show b ≠ p; omega) (.int .i64 (x.size : Int)))
        obtain ⟨c0, _, _, _, _, f1, _⟩ := HD2.out.lex.cells
        obtain ⟨q0, q1, q2, q3, q4, _⟩ := cells_tokG HBG.out
        have hres := HDG.out.res
        have hlex := HDG.out.lex
        have hbut := HDG.out.but
        have hrow := RowA.nil (wc.setCell ⟨p, 1, none⟩ (.int .i64 (x.size : Int))) 0
        clear k0 k1 k2
        obtain ⟨_, _, _, _, _, y0, y1, y2, y3, y4⟩ := cells_tokG hres
        have hz5 := set5_tokG hres hrow (.int .i64 4) (.string ⟨#[]⟩) (.slice none 0 0) (.bool false) (.string px)
        have hl5 := set5_lexT hlex (b := w.heap.size) (by omega) (.int .i64 4) (.string ⟨#[]⟩) (.slice none 0 0) (.bool false) (.string px)
        have hb5 := set5_butT hbut (b := w.heap.size) (Nat.le_refl _) (.int .i64 4) (.string ⟨#[]⟩) (.slice none 0 0) (.bool false) (.string px)
        have HZ5 := Lib.hid hz5.1
        have HR5 := Lib.hid hz5.2
        have HL5 := Lib.hid hl5
        have HB5 := Lib.hid hb5
        clear hz5 hl5 hb5 hres hlex hbut hrow
        go_wp2_with fail
        refine bodyPost_ret (v := .agg #[.int .i64 4, .string ⟨#[]⟩, .slice none 0 0, .bool false, .string px]) (results_cell_row (fn := Tryz.f16) (p := 2) rfl _ _ w.heap.size _ #[.int .i64 4, .string ⟨#[]⟩, .slice none 0 0, .bool false, .string px] (0, 0) _ (by rfl) HZ5.out Tryz.underlying44 (by rfl) (by kernel_rfl)) rfl ?_
        rw [HSX.out]
        exact ⟨none, 0, by rw [← HDR.out]; rfl, HR5.out, HL5.out, HB5.out⟩
    · have HSX := Lib.hid (show NX = ((dataX (B x) s.fo s.at_).1, afterL s (dataX (B x) s.fo s.at_)) by
        have := HNY.out
        rwa [if_neg (by rintro (e | e); exact absurd (beq_iff_eq.2 e) (by rw [d2]; decide); exact absurd (beq_iff_eq.2 e) (by rw [d3]; decide)), if_neg (fun e => absurd (beq_iff_eq.2 e) (by rw [d4]; decide))] at this)
      have HRW := Lib.hid (ldata_any p x s w3 hlx3 hok)
      generalize dataX (B x) s.fo s.at_ = dd at *
      obtain ⟨⟨tk, tn, ta, tsf, tt⟩, tto⟩ := dd
      unfold TokTo tkG at HRW
      simp only at HRW
      clear hlx3 hok HNY
      go_wp2_with fail
      refine HRW.out.mono ?_
      rintro e w5 ⟨A, c, rfl, hrow, hlex, hbt5⟩
      have hres := HD.out.res.but hbt5 (by omega)
      have hbut := HD.out.but.trans hbt5 (fun _ h => .inl h)
      obtain ⟨_, _, _, _, _, y0, y1, y2, y3, y4⟩ := cells_tokG hres
      have hz5 := set5_tokG hres hrow (.int .i64 tk) (.string tn) (.slice A ta.length c) (.bool tsf) (.string tt)
      have hl5 := set5_lexT hlex (b := w.heap.size) (by omega) (.int .i64 tk) (.string tn) (.slice A ta.length c) (.bool tsf) (.string tt)
      have hb5 := set5_butT hbut (b := w.heap.size) (Nat.le_refl _) (.int .i64 tk) (.string tn) (.slice A ta.length c) (.bool tsf) (.string tt)
      have HZ5 := Lib.hid hz5.1
      have HR5 := Lib.hid hz5.2
      have HL5 := Lib.hid hl5
      have HB5 := Lib.hid hb5
      clear hz5 hl5 hb5 hres hlex hbut hrow hbt5
      go_wp2_with fail
      refine bodyPost_ret (v := .agg #[.int .i64 tk, .string tn, .slice A ta.length c, .bool tsf, .string tt]) (results_cell_row (fn := Tryz.f16) (p := 2) rfl _ _ w.heap.size _ #[.int .i64 tk, .string tn, .slice A ta.length c, .bool tsf, .string tt] (0, 0) _ (by rfl) HZ5.out Tryz.underlying44 (by rfl) (by kernel_rfl)) rfl ?_
      rw [HSX.out]
      exact ⟨A, c, rfl, HR5.out, HL5.out, HB5.out⟩
end Go.Proofs.YtdjeajbinpgpiaaGreat
