/- The reference's lexer: Next. -/
import Derived.Test.YtdjeajbinpgpiaaGreatJLexerTellsLexRfR
import Derived.Test.YtdjeajbinpgpiaaGreatJLexerTellsLexN
namespace Go.Proofs.YtdjeajbinpgpiaaGreat
open Go.RowKit Go.BigFrame

/-- Next in the reference's order. -/
theorem nextL_ref (x : List UInt8) (s : Lx) (hk : s.at_ ≤ x.length) : nextL x s =
    if x.length ≤ s.at_ then (eofT, s)
    else if s.mode = 4 then (txtT (x.drop s.at_), { s with at_ := x.length })
    else if s.mode = 2 ∨ s.mode = 3 then rawTok x s
    else if ¬ (x[s.at_]? = some 60 ∧ markedX x s.fo s.at_ = true) then (txtT (textX x s.fo s.at_ true).1, { s with at_ := (textX x s.fo s.at_ true).2 })
    else if (readM x s.at_ s.fo).2.2 = true then
      (if (readM x s.at_ s.fo).1.kind ≠ 0 then (tmTk (readM x s.at_ s.fo).1, { s with at_ := (readM x s.at_ s.fo).2.1.toNat }) else nextL x { s with at_ := (readM x s.at_ s.fo).2.1.toNat })
    else ((tagX x s.at_).1, afterL s (tagX x s.at_)) := by
  by_cases h0 : x.length ≤ s.at_
  · rw [if_pos h0]; unfold nextL; rw [if_pos h0]
  rw [if_neg h0]
  by_cases h4 : s.mode = 4
  · rw [if_pos h4]; unfold nextL
    rw [if_neg h0, if_neg (by rw [h4]; decide), if_pos h4]
  rw [if_neg h4]
  by_cases h2 : s.mode = 2 ∨ s.mode = 3
  · rw [if_pos h2]; exact nextL_raw x s h0 h2
  rw [if_neg h2]
  have hn : nextL x s = ((dataX x s.fo s.at_).1, afterL s (dataX x s.fo s.at_)) := by
    unfold nextL; rw [if_neg h0, if_neg h2, if_neg h4]
  rw [hn, dataX_ref x s.fo s.at_ hk, if_neg h0]
  split
  · rfl
  · split
    · rename_i hm
      obtain ⟨m, hm1, hm2, hm3⟩ := readM_some (x := x) (k := s.at_) (fo := s.fo) (by omega) hm
      have hkd := tm_kind x s.at_ s.fo
      rw [hm1, Int.toNat_natCast]
      split
      · refine Prod.ext rfl ?_
        show afterL s (tmTk _, m) = _
        unfold afterL tmTk
        rw [if_neg hkd]
      · unfold nextL
        by_cases hml : x.length ≤ m
        · rw [if_pos hml]
          have : dataX x s.fo m = (eofT, x.length) := by rw [dataX_step x s.fo m hm3, if_pos hml]
          rw [this]
          have e : x.length = m := by omega
          unfold afterL eofT
          simp [e]
        · rw [if_neg hml, if_neg h2, if_neg h4]; rfl
    · rfl
set_option maxHeartbeats 8000000 in
set_option maxRecDepth 100000 in
theorem rfnext_any (p : Nat) (x : ByteArray) (s : Lx) (w : World) (h : RefAt w p x s) (hxs : x.size ≤ 65536) (hal : s.at_ ≤ x.size) (hss : s.st.size ≤ 65534) (hok : StOk s) :
    Calls Tryz.prog 17 #[.pointer (some ⟨p, 0, none⟩)] w (RefTo w p x (nextL (B x) s).1 (nextL (B x) s).2) := by
  have hplt : p < w.heap.size := Blk.lt h
  have hlen : (B x).length = x.size := (size_B x).symm
  have hD := reaf_start h
  obtain ⟨w1, hw1⟩ : ∃ w1, w1 = w.alloc (.cells #[.int .i64 0, .string ⟨#[]⟩, .slice none 0 0, .bool false, .string ⟨#[]⟩] 44) := ⟨_, rfl⟩
  have HW1 := Lib.hid hw1.symm
  rw [← hw1] at hD
  have HD := Lib.hid hD
  obtain ⟨NX, hNX⟩ : ∃ r, nextL (B x) s = r := ⟨_, rfl⟩
  rw [hNX]
  have HNX := Lib.hid hNX
  have HOK := Lib.hid hok
  have HLN := Lib.hid hlen
  obtain ⟨a, mo, fo, st⟩ := s
  simp only at *
  clear h hD hw1 hNX hok hlen
  go_enter Tryz.func17, Tryz.ntmps17
  go_upto_block 0 with (fail)
  rw [HW1.out]
  go_cut [] (fun wx => ∃ k, Hid (ReafAt w wx p x ⟨k, mo, fo, st⟩) ∧ Hid (NX = (eofT, ⟨k, mo, fo, st⟩)))
  case first =>
    go_wp2_with fail
    go_loopw [] (fun wr => ∃ k : Nat, ReafAt w wr p x ⟨k, mo, fo, st⟩ ∧ Hid (k ≤ x.size ∧ nextL (B x) ⟨k, mo, fo, st⟩ = NX)) (fun wr => x.size - atOf wr p)
    case atStart => exact ⟨a, HD.out, ⟨hal, HNX.out⟩⟩
    case round =>
      obtain ⟨k, hda, HK⟩ := hrel
      have HDr := Lib.hid hda
      have hkx := HK.out.1
      have hat : atOf wr p = k := hda.ref.atOf
      rw [hat]
      have cc0 : ∀ n : After wr, n.W.cell? ⟨p, 0, none⟩ = some (.string x) := fun n => (after_reaf hda n).1
      have cc1 : ∀ n : After wr, n.W.cell? ⟨p, 1, none⟩ = some (.int .i64 (k : Int)) := fun n => (after_reaf hda n).2.1
      have hstep := nextL_ref (B x) ⟨k, mo, fo, st⟩ (by rw [HLN.out]; exact hkx)
      rw [HK.out.2] at hstep
      simp only [HLN.out] at hstep
      have HST := Lib.hid hstep
      clear hda hat hstep
      by_cases hlt : k < x.size
      · have d0 : decide ((k : Int) < (x.size : Int)) = true := decide_eq_true (by omega)
        have hst := HST.out
        rw [if_neg (by omega)] at hst
        have HS1 := Lib.hid hst
        clear hst HST
        go_wp2_with fail
        refine wp_region_after (by kernel_rfl) (by kernel_rfl) ?_
        repeat (any_goals (go_big_quiet_step (fail)))
        refine wpQuiet_nil ?_
        rintro w' ⟨n1, rfl⟩
        have HD1 := Lib.hid (HDr.out.keep n1.below)
        clear cc0 cc1
        generalize n1.W = w3 at *
        obtain ⟨k0, k1, k2, _⟩ := HD1.out.ref.cells
        have hcase : (mo == 4) = true ∨ ((mo == 4) = false ∧ (mo == 2) = true) ∨ ((mo == 4) = false ∧ (mo == 2) = false ∧ (mo == 3) = true) ∨ ((mo == 4) = false ∧ (mo == 2) = false ∧ (mo == 3) = false) := by
          cases mo == 4 <;> cases mo == 2 <;> cases mo == 3 <;> simp
        have hraw : (mo = 2 ∨ mo = 3) → Hid (Calls Tryz.prog 28 #[.pointer (some ⟨p, 0, none⟩)] w3 (RefTo w3 p x NX.1 NX.2)) := fun hm => by
          have := HS1.out
          rw [if_neg (by rcases hm with e | e <;> rw [e] <;> decide), if_pos hm] at this
          rw [this]
          exact rfrawt_any p x ⟨k, mo, fo, st⟩ w3 HD1.out.ref hxs hlt hss HOK.out
        have HRAW := Lib.hid hraw
        clear hraw
        rcases hcase with d4 | ⟨d4, d2⟩ | ⟨d4, d2, d3⟩ | ⟨d4, d2, d3⟩
        · have HSX := Lib.hid (show NX = (txtT ((B x).drop k), ⟨x.size, mo, fo, st⟩) from by have := HS1.out; rwa [if_pos (beq_iff_eq.1 d4)] at this)
          have hdr : S ((B x).drop k) = x.extract k x.size := (S_drop x k).symm
          obtain ⟨px, hpx⟩ : ∃ q, x.extract k x.size = q := ⟨_, rfl⟩
          rw [hpx] at hdr
          have HDR := Lib.hid hdr
          have i0 : (0 : Int) ≤ (k : Int) := by omega
          have i1 : (k : Int) ≤ (x.size : Int) := by omega
          have HDB := Lib.hid (made_drew w3)
          have HDA := Lib.hid (tok_alloc_below w3 #[.int .i64 0, .string ⟨#[]⟩, .slice none 0 0, .bool false, .string ⟨#[]⟩])
          have HZA := Lib.hid (show Blk (w3.alloc (.cells #[.int .i64 0, .string ⟨#[]⟩, .slice none 0 0, .bool false, .string ⟨#[]⟩] 44)).drew w3.heap.size 44 #[.int .i64 0, .string ⟨#[]⟩, .slice none 0 0, .bool false, .string ⟨#[]⟩] (0, 0) from Blk.new w3 _ _ _)
          clear hdr HRAW HS1
          go_upto_region 4 with (fail)
          go_cut [3] (fun s3 wx => ∃ b, s3 = .pointer (some ⟨b, 0, none⟩) ∧ Hid (Blk wx b 44 #[.int .i64 4, .string ⟨#[]⟩, .slice none 0 0, .bool false, .string px] (0, 0)) ∧ Hid (ReafAt w wx p x ⟨k, mo, fo, st⟩) ∧ Hid (w.heap.size + 1 ≤ b))
          case first =>
            obtain ⟨z0, z1, z2, z3, z4, f0, f1, f2, f3, f4⟩ := cells_tokG HZA.out
            obtain ⟨a0, a1, _⟩ := (HD1.out.keep HDA.out).ref.cells
            obtain ⟨b0, b1, _⟩ := (HD1.out.keep HDB.out).ref.cells
            go_region_with (fail)
            all_goals
              go_wp2_with fail
              go_meet
              exact ⟨w3.heap.size, rfl, Blk.new w3 _ _ _, HD1.out.keep (tok_alloc_below w3 _), HD1.out.size⟩
          case rest =>
            obtain ⟨b, rfl, HBb, HD4, HLE⟩ := hcut
            have hbs := HLE.out
            have hp := HD4.out.base
            clear k0 k1 k2
            obtain ⟨c0, c1, c2, _, _, f1, _⟩ := HD4.out.ref.cells
            have HB6 := Lib.hid (HBb.out.far (p := ⟨p, 1, none⟩) (by show b ≠ p; omega) (.int .i64 (x.size : Int)))
            obtain ⟨v0, v1, v2, v3, v4, _⟩ := cells_tokG HB6.out
            have HD7 := Lib.hid (HD4.out.goto x.size)
            obtain ⟨hz, hto⟩ := HD7.out.out (RowA.nil _ 0) 4 ⟨#[]⟩ false px
            obtain ⟨_, _, _, _, _, y0, y1, y2, y3, y4⟩ := cells_tokG HD7.out.res
            have HZ := Lib.hid hz
            have HTO := Lib.hid hto
            clear hz hto HD1 HDA HDB HZA HLE
            go_wp2_with fail
            refine bodyPost_ret (v := .agg #[.int .i64 4, .string ⟨#[]⟩, .slice none 0 0, .bool false, .string px]) (results_cell_row (fn := Tryz.f17) (p := 2) rfl _ _ w.heap.size _ #[.int .i64 4, .string ⟨#[]⟩, .slice none 0 0, .bool false, .string px] (0, 0) _ (by rfl) HZ.out Tryz.underlying44 (by rfl) (by kernel_rfl)) rfl ?_
            rw [HSX.out]
            show RefTo w p x ⟨4, ⟨#[]⟩, [], false, S ((B x).drop k)⟩ _ _ _
            rw [HDR.out]
            exact HTO.out
        · have HRW := HRAW.out (.inl (beq_iff_eq.1 d2))
          obtain ⟨⟨tk, tn, ta, tsf, tt⟩, s2⟩ := NX
          simp only at HRW
          clear HRAW HS1
          go_wp2_with fail
          refine HRW.out.mono ?_
          intro e w5 hto5
          obtain ⟨A, c, rfl, hrow, hd5⟩ := HD1.out.pass hto5
          obtain ⟨hz, hto⟩ := hd5.out hrow tk tn tsf tt
          obtain ⟨_, _, _, _, _, y0, y1, y2, y3, y4⟩ := cells_tokG hd5.res
          have HZ := Lib.hid hz
          have HTO := Lib.hid hto
          unfold tkG
          clear hz hto hd5 hrow hto5
          go_wp2_with fail
          refine bodyPost_ret (v := .agg #[.int .i64 tk, .string tn, .slice A ta.length c, .bool tsf, .string tt]) (results_cell_row (fn := Tryz.f17) (p := 2) rfl _ _ w.heap.size _ #[.int .i64 tk, .string tn, .slice A ta.length c, .bool tsf, .string tt] (0, 0) _ (by rfl) HZ.out Tryz.underlying44 (by rfl) (by kernel_rfl)) rfl ?_
          exact HTO.out
        · have HRW := HRAW.out (.inr (beq_iff_eq.1 d3))
          obtain ⟨⟨tk, tn, ta, tsf, tt⟩, s2⟩ := NX
          simp only at HRW
          clear HRAW HS1
          go_wp2_with fail
          refine HRW.out.mono ?_
          intro e w5 hto5
          obtain ⟨A, c, rfl, hrow, hd5⟩ := HD1.out.pass hto5
          obtain ⟨hz, hto⟩ := hd5.out hrow tk tn tsf tt
          obtain ⟨_, _, _, _, _, y0, y1, y2, y3, y4⟩ := cells_tokG hd5.res
          have HZ := Lib.hid hz
          have HTO := Lib.hid hto
          unfold tkG
          clear hz hto hd5 hrow hto5
          go_wp2_with fail
          refine bodyPost_ret (v := .agg #[.int .i64 tk, .string tn, .slice A ta.length c, .bool tsf, .string tt]) (results_cell_row (fn := Tryz.f17) (p := 2) rfl _ _ w.heap.size _ #[.int .i64 tk, .string tn, .slice A ta.length c, .bool tsf, .string tt] (0, 0) _ (by rfl) HZ.out Tryz.underlying44 (by rfl) (by kernel_rfl)) rfl ?_
          exact HTO.out
        · have hst := HS1.out
          rw [if_neg (by intro e; rw [beq_eq_false_iff_ne] at d4; exact d4 e), if_neg (by rw [beq_eq_false_iff_ne] at d2 d3; rintro (e | e); exact d2 e; exact d3 e)] at hst
          have HS2 := Lib.hid hst
          have i0 : (0 : Int) ≤ (k : Int) := by omega
          have i1 : (k : Int) < (x.size : Int) := by omega
          have hbc : (B x)[k]? = some (x[k]'hlt) := B_at x k hlt
          have HBC := Lib.hid hbc
          obtain ⟨cb, hcb⟩ : ∃ cb, cb = !(decide (x[k]'hlt = 60) && markedX (B x) fo k) := ⟨_, rfl⟩
          have HCB := Lib.hid hcb
          have cc0 : ∀ n : After w3, n.W.cell? ⟨p, 0, none⟩ = some (.string x) := fun n => (after_reaf HD1.out n).1
          have cc1 : ∀ n : After w3, n.W.cell? ⟨p, 1, none⟩ = some (.int .i64 (k : Int)) := fun n => (after_reaf HD1.out n).2.1
          have HMK := Lib.hid (fun n : After w3 => rfmarks_any p x ⟨k, mo, fo, st⟩ k n.W (HD1.out.ref.keep n.below) hxs)
          simp only at HMK
          clear hst hbc hcb HS1 HRAW
          go_upto_region 10 with (fail)
          go_cut [65] (fun s65 wx => s65 = .bool cb ∧ ReafAt w wx p x ⟨k, mo, fo, st⟩)
          case first =>
            clear k0 k1 k2
            by_cases h60 : x[k]'hlt = 60
            · have e1 : ((x[k].toNat : Int) != 60) = false := by rw [h60]; rfl
              have e2 : ((x[k].toNat : Int) == 60) = true := by rw [h60]; rfl
              have HC := Lib.hid (show cb = !markedX (B x) fo k by rw [HCB.out, decide_eq_true h60]; simp)
              generalize markedX (B x) fo k = mb at *
              clear h60 HCB
              cases mb
              all_goals
                refine wp_region_after (by kernel_rfl) (by kernel_rfl) ?_
                repeat (any_goals (go_big_quiet_step ((go_at_call 29; with_reducible exact call_after (HMK.out _)))))
                refine wpQuiet_nil ?_
                rintro w' ⟨n1, rfl⟩
                go_wp2_with fail
                go_meet
                exact ⟨by rw [HC.out]; rfl, HD1.out.keep n1.below⟩
            · have e1 : ((x[k].toNat : Int) != 60) = true := by
                rw [bne_iff_ne]
                exact fun e => h60 (UInt8.toNat_inj.1 (by show _ = 60; omega))
              have HC := Lib.hid (show cb = true by rw [HCB.out, decide_eq_false h60]; simp)
              clear h60 HCB HMK
              refine wp_region_after (by kernel_rfl) (by kernel_rfl) ?_
              repeat (any_goals (go_big_quiet_step (fail)))
              refine wpQuiet_nil ?_
              rintro w' ⟨n1, rfl⟩
              go_wp2_with fail
              go_meet
              exact ⟨by rw [HC.out], HD1.out.keep n1.below⟩
          case rest =>
            obtain ⟨rfl, hD2⟩ := hcut
            have HD2 := Lib.hid hD2
            clear hD2 HMK HD1 cc0 cc1 k0 k1 k2
            cases cb
            · have hz : (B x)[k]? = some 60 ∧ markedX (B x) fo k = true := by
                have h1 := HCB.out
                have h2 : (decide (x[k]'hlt = 60) && markedX (B x) fo k) = true := by
                  cases hv : (decide (x[k]'hlt = 60) && markedX (B x) fo k) with
                  | true => rfl
                  | false => rw [hv] at h1; cases h1
                rw [Bool.and_eq_true] at h2
                exact ⟨by rw [HBC.out, of_decide_eq_true h2.1], h2.2⟩
              have hst := HS2.out
              rw [if_neg (fun n => n hz)] at hst
              have hsome := readM_some (x := B x) (k := k) (fo := fo) (by rw [HLN.out]; exact hlt)
              have HM := Lib.hid (fun W => rread_any x (k : Int) fo W hxs)
              generalize readM (B x) k fo = rm at *
              obtain ⟨⟨mk, mn, mt⟩, mto, mok⟩ := rm
              simp only [valM, tkM] at HM
              simp only at hst hsome
              have HSY := Lib.hid hst
              have HSM := Lib.hid hsome
              have KS := Lib.hid (fun W (hW : Below wc.heap.size wc W) => (show W.cell? ⟨p, 0, none⟩ = some (.string x) ∧ W.cell? ⟨p, 1, none⟩ = some (.int .i64 (k : Int)) ∧ W.cell? ⟨p, 4, none⟩ = some (.bool fo) from ⟨(HD2.out.keep hW).ref.cells.1, (HD2.out.keep hW).ref.cells.2.1, (HD2.out.keep hW).ref.cells.2.2.2.2.1⟩))
              have HDB := Lib.hid (made_drew wc)
              have HDA := Lib.hid (tok_alloc_below wc #[.int .i64 0, .string ⟨#[]⟩, .slice none 0 0, .bool false, .string ⟨#[]⟩])
              have HZA := Lib.hid (show Blk (wc.alloc (.cells #[.int .i64 0, .string ⟨#[]⟩, .slice none 0 0, .bool false, .string ⟨#[]⟩] 44)).drew wc.heap.size 44 #[.int .i64 0, .string ⟨#[]⟩, .slice none 0 0, .bool false, .string ⟨#[]⟩] (0, 0) from Blk.new wc _ _ _)
              have HMB := Lib.hid (HM.out wc.drew)
              have HMA := Lib.hid (HM.out (wc.alloc (.cells #[.int .i64 0, .string ⟨#[]⟩, .slice none 0 0, .bool false, .string ⟨#[]⟩] 44)).drew)
              clear hst hsome HM hz HS2
              go_upto_region 12 with (fail)
              go_cut [4, 5, 6] (fun s4 s5 s6 wx => ∃ b, s4 = .pointer (some ⟨b, 0, none⟩) ∧ s5 = .int .i64 mto ∧ s6 = .bool mok ∧ Hid (Blk wx b 44 #[.int .i64 mk, .string (S mn), .slice none 0 0, .bool false, .string (S mt)] (0, 0)) ∧ Hid (Below wc.heap.size wc wx) ∧ Hid (wc.heap.size ≤ b))
              case first =>
                go_region_held3 (fun W => W.cell? ⟨p, 0, none⟩ = some (.string x) ∧ W.cell? ⟨p, 1, none⟩ = some (.int .i64 (k : Int)) ∧ W.cell? ⟨p, 4, none⟩ = some (.bool fo))
                  (first
                    | exact KS.out _ HBW.out
                    | exact KS.out _ HDB.out
                    | exact KS.out _ HDA.out
                    | exact KS.out _ (made_alloc HBW.out _)
                    | exact KS.out _ (set5_belowG HBW.out (Nat.le_refl _) _ _ _ _ _))
                  ((go_at_call 31
                    first
                      | (with_reducible refine HMB.out.mono ?_
                         rintro e w5 ⟨rfl, b5⟩
                         have HBW := Lib.hid (below_then HDB.out HDB.out.size b5)
                         clear b5)
                      | (with_reducible refine HMA.out.mono ?_
                         rintro e w5 ⟨rfl, b5⟩
                         have HBW := Lib.hid (below_then HDA.out HDA.out.size b5)
                         have HZ5 := Lib.hid (HZA.out.keep b5)
                         obtain ⟨z0, z1, z2, z3, z4, f0, f1, f2, f3, f4⟩ := cells_tokG (HZA.out.keep b5)
                         clear b5)))
                all_goals
                  go_wp2_with fail
                  go_meet
                  first
                    | exact ⟨wc.heap.size, rfl, rfl, rfl, (set5_tokG HZ5.out (RowA.nil _ 0) _ _ _ _ _).1, set5_belowG HBW.out (Nat.le_refl _) _ _ _ _ _, Nat.le_refl _⟩
                    | exact ⟨w5.heap.size, rfl, rfl, rfl, Blk.new w5 _ _ _, made_alloc HBW.out _, HBW.out.size⟩
              case rest =>
                obtain ⟨b, rfl, rfl, rfl, HBk, HBc, HLE⟩ := hcut
                rename World => wc2
                have HD3 := Lib.hid (HD2.out.keep HBc.out)
                have hbs : w.heap.size + 1 ≤ b := Nat.le_trans HD2.out.size HLE.out
                clear HMA HMB HDA HDB HZA KS HBc HLE HD2
                obtain ⟨c0, c1, _, _, _, f1, _⟩ := HD3.out.ref.cells
                cases mok
                · have HSX := Lib.hid (show NX = ((tagX (B x) k).1, afterL ⟨k, mo, fo, st⟩ (tagX (B x) k)) from by have := HSY.out; rwa [if_neg (by decide)] at this)
                  have HTG := Lib.hid (rftag_any p x ⟨k, mo, fo, st⟩ _ HD3.out.ref hxs)
                  simp only at HTG
                  generalize tagX (B x) k = tx at *
                  obtain ⟨⟨tk, tn, ta, tsf, tt⟩, tto⟩ := tx
                  clear HSY HSM
                  go_wp2_with fail
                  refine HTG.out.mono ?_
                  intro e w5 hto5
                  obtain ⟨A, c, rfl, hrow, hd5⟩ := HD3.out.pass hto5
                  obtain ⟨hz, hto⟩ := hd5.out hrow tk tn tsf tt
                  obtain ⟨_, _, _, _, _, y0, y1, y2, y3, y4⟩ := cells_tokG hd5.res
                  have HZ := Lib.hid hz
                  have HTO := Lib.hid hto
                  unfold tkG
                  clear hz hto hd5 hrow hto5
                  go_wp2_with fail
                  refine bodyPost_ret (v := .agg #[.int .i64 tk, .string tn, .slice A ta.length c, .bool tsf, .string tt]) (results_cell_row (fn := Tryz.f17) (p := 2) rfl _ _ w.heap.size _ #[.int .i64 tk, .string tn, .slice A ta.length c, .bool tsf, .string tt] (0, 0) _ (by rfl) HZ.out Tryz.underlying44 (by rfl) (by kernel_rfl)) rfl ?_
                  rw [HSX.out]
                  exact HTO.out
                · obtain ⟨m, rfl, hkm, hmx⟩ := HSM.out rfl
                  rw [HLN.out] at hmx
                  have hst := HSY.out
                  rw [if_pos rfl, Int.toNat_natCast] at hst
                  have HSX := Lib.hid hst
                  have hp := HD3.out.base
                  have HDG := Lib.hid (HD3.out.goto m)
                  have HBG := Lib.hid (HBk.out.far (p := ⟨p, 1, none⟩) (by show b ≠ p; omega) (.int .i64 (m : Int)))
                  obtain ⟨q0, q1, q2, q3, q4, _⟩ := cells_tokG HBG.out
                  clear hst HSY
                  by_cases hmk : mk = 0
                  · subst hmk
                    have HSZ := Lib.hid (show NX = nextL (B x) ⟨m, mo, fo, st⟩ from by have := HSX.out; rwa [if_neg (fun n => n rfl)] at this)
                    go_wp2_with fail
                    refine ⟨⟨m, HDG.out, hmx, HSZ.out.symm⟩, ?_⟩
                    rw [HDG.out.ref.atOf]
                    show x.size - m < x.size - k
                    omega
                  · have e1 : (mk != 0) = true := by rw [bne_iff_ne]; exact hmk
                    have HSZ := Lib.hid (show NX = (⟨mk, S mn, [], false, S mt⟩, ⟨m, mo, fo, st⟩) from by have := HSX.out; rwa [if_pos hmk] at this)
                    obtain ⟨hz, hto⟩ := HDG.out.out (RowA.nil _ 0) mk (S mn) false (S mt)
                    obtain ⟨_, _, _, _, _, y0, y1, y2, y3, y4⟩ := cells_tokG HDG.out.res
                    have HZ := Lib.hid hz
                    have HTO := Lib.hid hto
                    clear hz hto hmk
                    go_wp2_with fail
                    refine bodyPost_ret (v := .agg #[.int .i64 mk, .string (S mn), .slice none 0 0, .bool false, .string (S mt)]) (results_cell_row (fn := Tryz.f17) (p := 2) rfl _ _ w.heap.size _ #[.int .i64 mk, .string (S mn), .slice none 0 0, .bool false, .string (S mt)] (0, 0) _ (by rfl) HZ.out Tryz.underlying44 (by rfl) (by kernel_rfl)) rfl ?_
                    rw [HSZ.out]
                    exact HTO.out
            · have hnz : ¬ ((B x)[k]? = some 60 ∧ markedX (B x) fo k = true) := fun n => by
                have h1 := HCB.out
                rw [HBC.out] at n
                rw [decide_eq_true (Option.some.inj n.1), n.2] at h1
                cases h1
              have HSX := Lib.hid (show NX = (txtT (textX (B x) fo k true).1, ⟨(textX (B x) fo k true).2, mo, fo, st⟩) from by have := HS2.out; rwa [if_pos hnz] at this)
              have HTX := Lib.hid (rftext_any p x ⟨k, mo, fo, st⟩ wc HD2.out.ref hxs hkx)
              simp only at HTX
              generalize textX (B x) fo k true = tt at *
              obtain ⟨tl, tn2⟩ := tt
              unfold txtT at HTX
              simp only at HTX
              clear HS2 HCB hnz
              go_wp2_with fail
              refine HTX.out.mono ?_
              intro e w5 hto5
              obtain ⟨A, c, rfl, hrow, hd5⟩ := HD2.out.pass hto5
              obtain ⟨hz, hto⟩ := hd5.out hrow 4 ⟨#[]⟩ false (S tl)
              obtain ⟨_, _, _, _, _, y0, y1, y2, y3, y4⟩ := cells_tokG hd5.res
              have HZ := Lib.hid hz
              have HTO := Lib.hid hto
              unfold tkG
              clear hz hto hd5 hrow hto5
              go_wp2_with fail
              refine bodyPost_ret (v := .agg #[.int .i64 4, .string ⟨#[]⟩, .slice A 0 c, .bool false, .string (S tl)]) (results_cell_row (fn := Tryz.f17) (p := 2) rfl _ _ w.heap.size _ #[.int .i64 4, .string ⟨#[]⟩, .slice A 0 c, .bool false, .string (S tl)] (0, 0) _ (by rfl) HZ.out Tryz.underlying44 (by rfl) (by kernel_rfl)) rfl ?_
              rw [HSX.out]
              exact HTO.out
      · have d0 : decide ((k : Int) < (x.size : Int)) = false := decide_eq_false (by omega)
        have HSX := Lib.hid (show NX = (eofT, ⟨k, mo, fo, st⟩) from by have := HST.out; rwa [if_pos (by omega)] at this)
        go_wp2_with fail
        refine wp_region_after (by kernel_rfl) (by kernel_rfl) ?_
        repeat (any_goals (go_big_quiet_step (fail)))
        refine wpQuiet_nil ?_
        rintro w' ⟨n1, rfl⟩
        have HD1 := Lib.hid (HDr.out.keep n1.below)
        clear cc0 cc1
        go_wp2_with fail
        go_meet
        exact ⟨k, HD1.out, HSX.out⟩
  case rest =>
    obtain ⟨k, HDk, HSX⟩ := hcut
    obtain ⟨hz, hto⟩ := HDk.out.out (RowA.nil _ 0) 6 ⟨#[]⟩ false ⟨#[]⟩
    obtain ⟨_, _, _, _, _, y0, y1, y2, y3, y4⟩ := cells_tokG HDk.out.res
    have HZ := Lib.hid hz
    have HTO := Lib.hid hto
    clear hz hto
    go_wp2_with fail
    refine bodyPost_ret (v := .agg #[.int .i64 6, .string ⟨#[]⟩, .slice none 0 0, .bool false, .string ⟨#[]⟩]) (results_cell_row (fn := Tryz.f17) (p := 2) rfl _ _ w.heap.size _ #[.int .i64 6, .string ⟨#[]⟩, .slice none 0 0, .bool false, .string ⟨#[]⟩] (0, 0) _ (by rfl) HZ.out Tryz.underlying44 (by rfl) (by kernel_rfl)) rfl ?_
    rw [HSX.out]
    exact HTO.out
end Go.Proofs.YtdjeajbinpgpiaaGreat
