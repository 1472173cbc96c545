/- The lexer: raw text, Next. -/
import Derived.Test.YtdjeajbinpgpiaaGreatJLexerTellsLexD
namespace Go.Proofs.YtdjeajbinpgpiaaGreat
open Go.RowKit Go.BigFrame

def rawTok (x : List UInt8) (s : Lx) : Tk × Lx :=
  if endsX x (B s.st) s.at_ = true then ((dataX x s.fo s.at_).1, afterL { s with mode := 1 } (dataX x s.fo s.at_))
  else (txtT (if s.mode = 2 then allR false (pieceL x s.at_ (rawEnd x (B s.st) s.at_)) else pieceL x s.at_ (rawEnd x (B s.st) s.at_)), { s with at_ := rawEnd x (B s.st) s.at_ })
theorem dataAt_ok {w0 w : World} {p : Nat} {x : ByteArray} {s : Lx} {k : Nat} (h : DataAt w0 w p x s k) (hl : LexAt w0 p x s) (ho : LexOk w0 x s) (hk : k ≤ x.size) : LexOk w x { s with at_ := k } := ⟨ho.size, hk, ho.st, ho.lax.lex hl h.but⟩

set_option maxHeartbeats 8000000 in
set_option maxRecDepth 100000 in
theorem lraw_any (p : Nat) (x : ByteArray) (s : Lx) (w : World) (h : LexAt w p x s) (ho : LexOk w x s) :
    Calls Tryz.prog 25 #[.pointer (some ⟨p, 0, none⟩)] w (TokTo w p x (rawTok (B x) s).1 (rawTok (B x) s).2) := by
  have hplt : p < w.heap.size := Blk.lt h
  have hxs := ho.size
  have hal := ho.at_
  have HO := Lib.hid ho
  have HLX := Lib.hid h
  obtain ⟨a, mo, fo, st⟩ := s
  simp only at *
  have hb0 := below_tokG w #[.int .i64 0, .string ⟨#[]⟩, .slice none 0 0, .bool false, .string ⟨#[]⟩]
  have hz := Blk.new w 44 #[.int .i64 0, .string ⟨#[]⟩, .slice none 0 0, .bool false, .string ⟨#[]⟩] (0, 0)
  obtain ⟨w1, hw1⟩ : ∃ w1, w1 = w.alloc (.cells #[.int .i64 0, .string ⟨#[]⟩, .slice none 0 0, .bool false, .string ⟨#[]⟩] 44) := ⟨_, rfl⟩
  have HW1 := Lib.hid hw1.symm
  have hsz1 : w1.heap.size = w.heap.size + 1 := by rw [hw1]; simp
  rw [← hw1] at hb0 hz
  have hDA : DataAt w w1 p x ⟨a, mo, fo, st⟩ a := ⟨h.keep hb0, But.of_below hb0, hplt, by omega, hz⟩
  have HDA := Lib.hid hDA
  obtain ⟨k0, k1, _⟩ := hDA.lex.cells
  rw [hw1] at k0 k1
  have hE := ends_any p x ⟨a, mo, fo, st⟩ a w1 hDA.lex (dataAt_ok hDA h ho hal) hal
  simp only at hE
  have HE := Lib.hid hE
  have hrt : Hid (rawTok (B x) ⟨a, mo, fo, st⟩ = if endsX (B x) (B st) a = true then ((dataX (B x) fo a).1, afterL ⟨a, 1, fo, st⟩ (dataX (B x) fo a)) else (txtT (if mo = 2 then allR false (pieceL (B x) a (rawEnd (B x) (B st) a)) else pieceL (B x) a (rawEnd (B x) (B st) a)), ⟨rawEnd (B x) (B st) a, mo, fo, st⟩)) := rfl
  obtain ⟨RT, hRT⟩ : ∃ r, rawTok (B x) ⟨a, mo, fo, st⟩ = r := ⟨_, rfl⟩
  rw [hRT] at hrt ⊢
  have HRT := Lib.hid hRT
  obtain ⟨eb, heb⟩ : ∃ b, endsX (B x) (B st) a = b := ⟨_, rfl⟩
  rw [heb] at HE hrt
  have HEB := Lib.hid heb
  clear h ho hb0 hz hDA hw1 hE hRT heb
  go_enter Tryz.func25, Tryz.ntmps25
  go_wp2_with fail
  rw [HW1.out]
  refine HE.out.mono ?_
  rintro e w2 ⟨rfl, b2⟩
  have HD2 := Lib.hid (HDA.out.keep b2)
  clear b2 k0 k1
  cases eb
  · obtain ⟨k0, k1, _⟩ := HD2.out.lex.cells
    have HST := Lib.hid (show RT = (txtT (if mo = 2 then allR false (pieceL (B x) a (rawEnd (B x) (B st) a)) else pieceL (B x) a (rawEnd (B x) (B st) a)), ⟨rawEnd (B x) (B st) a, mo, fo, st⟩) from by have := hrt.out; rwa [if_neg (by decide)] at this)
    have hbd := rawEnd_bd (B x) (B st) a (by rw [← size_B]; exact hal)
    rw [← size_B] at hbd
    have HBD := Lib.hid hbd
    obtain ⟨R, hR⟩ : ∃ r, rawEnd (B x) (B st) a = r := ⟨_, rfl⟩
    rw [hR] at HST HBD
    have HR := Lib.hid hR
    clear hR hrt hbd
    go_upto_block 0 with (fail)
    clear k0 k1
    go_cut [] (fun wx => DataAt w wx p x ⟨a, mo, fo, st⟩ R)
    case first =>
      go_wp2_with fail
      go_loopw [] (fun wr => ∃ k : Nat, DataAt w wr p x ⟨a, mo, fo, st⟩ k ∧ Hid (k ≤ x.size ∧ rawEnd (B x) (B st) k = R)) (fun wr => x.size - atOf wr p)
      case atStart => exact ⟨a, HD2.out, ⟨hal, HR.out⟩⟩
      case round =>
        obtain ⟨k, hda, HK⟩ := hrel
        have HD := Lib.hid hda
        have hkx := HK.out.1
        have hat : atOf wr p = k := hda.lex.atOf
        rw [hat]
        have cc0 : ∀ n : After wr, n.W.cell? ⟨p, 0, none⟩ = some (.string x) := fun n => (after_data hda n).1
        have cc1 : ∀ n : After wr, n.W.cell? ⟨p, 1, none⟩ = some (.int .i64 (k : Int)) := fun n => (after_data hda n).2.1
        have hstep := rawEnd_step (B x) (B st) k (by rw [← size_B]; exact hkx)
        rw [HK.out.2, ← size_B] at hstep
        have HST2 := Lib.hid hstep
        have hlax : Lax wr := HO.out.lax.lex HLX.out hda.but
        have HE2 := Lib.hid (fun n : After wr => ends_any p x ⟨k, mo, fo, st⟩ k n.W (hda.keep n.below).lex ⟨hxs, hkx, HO.out.st, hlax.below n.below⟩ hkx)
        simp only at HE2
        have hff := rawEnd_find (B x) (B st) k
        rw [HK.out.2, ← size_B] at hff
        have HFF := Lib.hid hff
        clear hda hat hstep hff
        by_cases hlt : k < x.size
        · have d0 : decide ((k : Int) < (x.size : Int)) = true := decide_eq_true (by omega)
          obtain ⟨eb, heb⟩ : ∃ b, endsX (B x) (B st) k = b := ⟨_, rfl⟩
          rw [heb] at HE2 HST2
          have HEB2 := Lib.hid heb
          clear heb
          cases eb
          · go_wp2_with fail
            refine wp_region_after (by kernel_rfl) (by kernel_rfl) ?_
            repeat (any_goals (go_big_quiet_step ((go_at_call 37; with_reducible exact call_after (HE2.out _)))))
            refine wpQuiet_nil ?_
            rintro w' ⟨n1, rfl⟩
            have HD1 := Lib.hid (HD.out.keep n1.below)
            have hlax1 := hlax.below n1.below
            clear cc0 cc1 hlax HE2
            generalize n1.W = w3 at *
            have hFi := fun W (hL : Lax W) => find_any x ((k : Int) + 1) ⟨#[60, 47]⟩ W (by omega) hL
            rw [show (k : Int) + 1 = ((k + 1 : Nat) : Int) by omega, clampN_nat (k + 1) x.size (by omega), show B ⟨#[60, 47]⟩ = [60, 47] from rfl, show ((k + 1 : Nat) : Int) = (k : Int) + 1 by omega] at hFi
            have hfb := find_bd (B x) [60, 47] (k + 1) (by rw [← size_B]; omega)
            rw [← size_B] at hfb
            have hfr := HFF.out hlt HEB2.out
            have HFI := Lib.hid (hFi w3.drew (hlax1.below (made_drew w3)))
            generalize findL (B x) [60, 47] (k + 1) = f at *
            have HFR := Lib.hid hfr
            have w1 : IntKind.i64.wrap ((k : Int) + 1) = (k : Int) + 1 := IntWalk.i64_in _ (by omega)
            have HDG := Lib.hid ((HD1.out.goto f).keep (made_drew _))
            obtain ⟨k0, k1, _, _, _, f1, _⟩ := (HD1.out.keep (made_drew w3)).lex.cells
            clear hFi hfr
            go_wp2_with fail
            go_region_with ((
              go_at_call 38
              with_reducible refine HFI.out.mono ?_
              rintro e w' ⟨rfl, rfl⟩))
            all_goals
              go_wp2_with fail
              refine ⟨⟨f, HDG.out, by omega, HFR.out.symm⟩, ?_⟩
              rw [HDG.out.lex.atOf]
              show x.size - f < x.size - k
              omega
          · go_wp2_with fail
            refine wp_region_after (by kernel_rfl) (by kernel_rfl) ?_
            repeat (any_goals (go_big_quiet_step ((go_at_call 37; with_reducible exact call_after (HE2.out _)))))
            refine wpQuiet_nil ?_
            rintro w' ⟨n1, rfl⟩
            have HD1 := Lib.hid (HD.out.keep n1.below)
            clear cc0 cc1 hlax HE2
            go_wp2_with fail
            go_meet
            have hst := HST2.out
            rw [if_neg (by omega)] at hst
            have hst : R = k := by simpa using hst
            rw [hst]
            exact HD1.out
        · have d0 : decide ((k : Int) < (x.size : Int)) = false := decide_eq_false (by omega)
          go_wp2_with fail
          refine wp_region_after (by kernel_rfl) (by kernel_rfl) ?_
          repeat (any_goals (go_big_quiet_step (fail)))
          refine wpQuiet_nil ?_
          rintro w' ⟨n1, rfl⟩
          have HD1 := Lib.hid (HD.out.keep n1.below)
          clear cc0 cc1 hlax HE2
          go_wp2_with fail
          go_meet
          have hst := HST2.out
          rw [if_pos (by omega)] at hst
          rw [hst]
          exact HD1.out
    case rest =>
      have HD3 := Lib.hid hcut
      have cc0 : ∀ n : After wc, n.W.cell? ⟨p, 0, none⟩ = some (.string x) := fun n => (after_data hcut n).1
      have cc1 : ∀ n : After wc, n.W.cell? ⟨p, 1, none⟩ = some (.int .i64 (R : Int)) := fun n => (after_data hcut n).2.1
      have i0 : (a : Int) ≤ (R : Int) := by have := HBD.out; omega
      have i1 : (R : Int) ≤ (x.size : Int) := by have := HBD.out; omega
      clear hcut
      go_wp2_with fail
      refine wp_region_after (by kernel_rfl) (by kernel_rfl) ?_
      repeat (any_goals (go_big_quiet_step (fail)))
      refine wpQuiet_nil ?_
      rintro w' ⟨n1, rfl⟩
      have HD4 := Lib.hid (HD3.out.keep n1.below)
      clear cc0 cc1
      generalize n1.W = w3 at *
      obtain ⟨_, _, k2, _⟩ := HD4.out.lex.cells
      have hxe := size_extract_le x a R
      have hpe : S (pieceL (B x) a R) = x.extract a R := by
        have := B_piece x a R
        rw [show ((B x).drop a).take (R - a) = pieceL (B x) a R from rfl] at this
        rw [← this, S_B]
      obtain ⟨px, hpx⟩ : ∃ q, x.extract a R = q := ⟨_, rfl⟩
      rw [hpx] at hxe hpe
      rw [hpx]
      have hB : B px = pieceL (B x) a R := by rw [← hpe]; rfl
      have hlax := HO.out.lax.lex HLX.out HD4.out.but
      have HCL := Lib.hid (fun t W (ht : t.size ≤ 281474976710656) => clone_any t W ht)
      have HALL := Lib.hid (all_any px false w3 (by omega) hlax)
      rw [hB] at HALL
      have hal6 := allR_len false _ (pieceL (B x) a R) (Nat.le_refl _)
      rw [← hB, ← size_B] at hal6
      have HPE := Lib.hid hpe
      clear hpx hpe
      by_cases hm : mo = 2
      · subst hm
        have HSX := Lib.hid (show RT = (txtT (allR false (pieceL (B x) a R)), ⟨R, 2, fo, st⟩) from by have := HST.out; rwa [if_pos rfl] at this)
        rw [hB] at hal6
        generalize allR false (pieceL (B x) a R) = al at *
        go_wp2_with fail
        refine HALL.out.mono ?_
        rintro e w4 ⟨rfl, b4⟩
        have HD5 := Lib.hid (HD4.out.keep b4)
        clear b4
        go_wp2_with fail
        refine (HCL.out _ _ (by rw [size_S]; omega)).mono ?_
        rintro e w5 ⟨rfl, b5⟩
        have HD6 := Lib.hid (HD5.out.keep b5)
        clear b5
        have hres := HD6.out.res
        have hlex := HD6.out.lex
        have hbut := HD6.out.but
        have hrow := RowA.nil w5 0
        obtain ⟨_, _, _, _, _, y0, y1, y2, y3, y4⟩ := cells_tokG hres
        have hz5 := set5_tokG hres hrow (.int .i64 4) (.string ⟨#[]⟩) (.slice none 0 0) (.bool false) (.string (S al))
        have hl5 := set5_lexT hlex (b := w.heap.size) (by omega) (.int .i64 4) (.string ⟨#[]⟩) (.slice none 0 0) (.bool false) (.string (S al))
        have hb5 := set5_butT hbut (b := w.heap.size) (Nat.le_refl _) (.int .i64 4) (.string ⟨#[]⟩) (.slice none 0 0) (.bool false) (.string (S al))
        have HZ5 := Lib.hid hz5.1
        have HR5 := Lib.hid hz5.2
        have HL5 := Lib.hid hl5
        have HB5 := Lib.hid hb5
        clear hz5 hl5 hb5 hres hlex hbut hrow
        go_wp2_with fail
        refine bodyPost_ret (v := .agg #[.int .i64 4, .string ⟨#[]⟩, .slice none 0 0, .bool false, .string (S al)]) (results_cell_row (fn := Tryz.f25) (p := 2) rfl _ _ w.heap.size _ #[.int .i64 4, .string ⟨#[]⟩, .slice none 0 0, .bool false, .string (S al)] (0, 0) _ (by rfl) HZ5.out Tryz.underlying44 (by rfl) (by kernel_rfl)) rfl ?_
        rw [HSX.out]
        exact ⟨none, 0, rfl, HR5.out, HL5.out, HB5.out⟩
      · have d2 : (mo == 2) = false := beq_eq_false_iff_ne.2 hm
        have HSX := Lib.hid (show RT = (txtT (pieceL (B x) a R), ⟨R, mo, fo, st⟩) from by have := HST.out; rwa [if_neg hm] at this)
        clear HALL
        go_wp2_with fail
        refine (HCL.out _ _ (by omega)).mono ?_
        rintro e w5 ⟨rfl, b5⟩
        have HD6 := Lib.hid (HD4.out.keep b5)
        clear b5
        have hres := HD6.out.res
        have hlex := HD6.out.lex
        have hbut := HD6.out.but
        have hrow := RowA.nil w5 0
        obtain ⟨_, _, _, _, _, y0, y1, y2, y3, y4⟩ := cells_tokG hres
        have hz5 := set5_tokG hres hrow (.int .i64 4) (.string ⟨#[]⟩) (.slice none 0 0) (.bool false) (.string px)
        have hl5 := set5_lexT hlex (b := w.heap.size) (by omega) (.int .i64 4) (.string ⟨#[]⟩) (.slice none 0 0) (.bool false) (.string px)
        have hb5 := set5_butT hbut (b := w.heap.size) (Nat.le_refl _) (.int .i64 4) (.string ⟨#[]⟩) (.slice none 0 0) (.bool false) (.string px)
        have HZ5 := Lib.hid hz5.1
        have HR5 := Lib.hid hz5.2
        have HL5 := Lib.hid hl5
        have HB5 := Lib.hid hb5
        clear hz5 hl5 hb5 hres hlex hbut hrow
        go_wp2_with fail
        refine bodyPost_ret (v := .agg #[.int .i64 4, .string ⟨#[]⟩, .slice none 0 0, .bool false, .string px]) (results_cell_row (fn := Tryz.f25) (p := 2) rfl _ _ w.heap.size _ #[.int .i64 4, .string ⟨#[]⟩, .slice none 0 0, .bool false, .string px] (0, 0) _ (by rfl) HZ5.out Tryz.underlying44 (by rfl) (by kernel_rfl)) rfl ?_
        rw [HSX.out]
        exact ⟨none, 0, by rw [← HPE.out]; rfl, HR5.out, HL5.out, HB5.out⟩
  · obtain ⟨_, _, _, _, _, _, f2, _⟩ := HD2.out.lex.cells
    have HSX := Lib.hid (show RT = ((dataX (B x) fo a).1, afterL ⟨a, 1, fo, st⟩ (dataX (B x) fo a)) from by have := hrt.out; rwa [if_pos rfl] at this)
    have hl4 := HD2.out.lex.moded 1
    have hb4 := HD2.out.but.setCell ⟨p, 2, none⟩ (.int .i64 1) (.inl rfl)
    have hr4 := HD2.out.res.far (p := ⟨p, 2, none⟩) (by show w.heap.size ≠ p; omega) (.int .i64 1)
    have HDT := Lib.hid (ldata_any p x ⟨a, 1, fo, st⟩ _ hl4 ⟨hxs, hal, HO.out.st, HO.out.lax.lex HLX.out hb4⟩)
    simp only at HDT
    generalize dataX (B x) fo a = dd at *
    obtain ⟨⟨tk, tn, ta, tsf, tt⟩, tto⟩ := dd
    unfold TokTo tkG at HDT
    simp only at HDT
    have HR4 := Lib.hid hr4
    have HB4 := Lib.hid hb4
    clear hl4 hb4 hr4 hrt
    go_wp2_with fail
    refine HDT.out.mono ?_
    rintro e w5 ⟨A, c, rfl, hrow, hlex, hbt5⟩
    have hres := HR4.out.but hbt5 (by omega)
    have hbut := HB4.out.trans hbt5 (fun _ h => .inl h)
    obtain ⟨_, _, _, _, _, y0, y1, y2, y3, y4⟩ := cells_tokG hres
    have hz5 := set5_tokG hres hrow (.int .i64 tk) (.string tn) (.slice A ta.length c) (.bool tsf) (.string tt)
    have hl5 := set5_lexT hlex (b := w.heap.size) (by omega) (.int .i64 tk) (.string tn) (.slice A ta.length c) (.bool tsf) (.string tt)
    have hb5 := set5_butT hbut (b := w.heap.size) (Nat.le_refl _) (.int .i64 tk) (.string tn) (.slice A ta.length c) (.bool tsf) (.string tt)
    have HZ5 := Lib.hid hz5.1
    have HR5 := Lib.hid hz5.2
    have HL5 := Lib.hid hl5
    have HB5 := Lib.hid hb5
    clear hz5 hl5 hb5 hres hlex hbut hrow hbt5
    go_wp2_with fail
    refine bodyPost_ret (v := .agg #[.int .i64 tk, .string tn, .slice A ta.length c, .bool tsf, .string tt]) (results_cell_row (fn := Tryz.f25) (p := 2) rfl _ _ w.heap.size _ #[.int .i64 tk, .string tn, .slice A ta.length c, .bool tsf, .string tt] (0, 0) _ (by rfl) HZ5.out Tryz.underlying44 (by rfl) (by kernel_rfl)) rfl ?_
    rw [HSX.out]
    exact ⟨A, c, rfl, HR5.out, HL5.out, HB5.out⟩
end Go.Proofs.YtdjeajbinpgpiaaGreat
