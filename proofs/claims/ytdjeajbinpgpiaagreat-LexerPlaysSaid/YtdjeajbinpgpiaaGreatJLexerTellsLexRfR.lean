/- The reference's lexer: raw text. -/
import Derived.Test.YtdjeajbinpgpiaaGreatJLexerTellsLexRfX
import Derived.Test.YtdjeajbinpgpiaaGreatJLexerTellsLexR
namespace Go.Proofs.YtdjeajbinpgpiaaGreat
open Go.RowKit Go.BigFrame

theorem after_reaf {w0 w : World} {p : Nat} {x : ByteArray} {s : Lx} (h : ReafAt w0 w p x s) (n : After w) : n.W.cell? ⟨p, 0, none⟩ = some (.string x) ∧ n.W.cell? ⟨p, 1, none⟩ = some (.int .i64 (s.at_ : Int)) ∧ n.W.cell? ⟨p, 4, none⟩ = some (.bool s.fo) :=
  ⟨(h.keep n.below).ref.cells.1, (h.keep n.below).ref.cells.2.1, (h.keep n.below).ref.cells.2.2.2.2.1⟩
/-- A token handed on from a call. -/
theorem ReafAt.pass {w0 w w2 : World} {p : Nat} {x : ByteArray} {s s2 : Lx} (h : ReafAt w0 w p x s) {t : Tk} {e : Ending} (ht : RefTo w p x t s2 e w2) : ∃ A c, e = .returned (tkG t A c) ∧ RowA w2 0 (.slice A t.al.length c) t.al ∧ ReafAt w0 w2 p x s2 := by
  obtain ⟨A, c, he, hr, hx, hb⟩ := ht
  exact ⟨A, c, he, hr, hx, h.but.trans hb (fun _ h => .inl h), h.base, Nat.le_trans h.size hb.size, h.res.but hb (by have := h.base; omega)⟩
set_option maxHeartbeats 8000000 in
set_option maxRecDepth 100000 in
theorem rfrawt_any (p : Nat) (x : ByteArray) (s : Lx) (w : World) (h : RefAt w p x s) (hxs : x.size ≤ 65536) (hal : s.at_ < x.size) (hss : s.st.size ≤ 65534) (hok : StOk s) :
    Calls Tryz.prog 28 #[.pointer (some ⟨p, 0, none⟩)] w (RefTo w p x (rawTok (B x) s).1 (rawTok (B x) s).2) := by
  have hplt : p < w.heap.size := Blk.lt h
  have hD := reaf_start h
  have het := ends_tag (x := B x) (s := s) s.fo (k := s.at_) hok (by rw [← size_B]; exact hal)
  obtain ⟨a, mo, fo, st⟩ := s
  simp only at *
  obtain ⟨w1, hw1⟩ : ∃ w1, w1 = w.alloc (.cells #[.int .i64 0, .string ⟨#[]⟩, .slice none 0 0, .bool false, .string ⟨#[]⟩] 44) := ⟨_, rfl⟩
  have HW1 := Lib.hid hw1.symm
  rw [← hw1] at hD
  have HD := Lib.hid hD
  obtain ⟨k0, k1, _⟩ := hD.ref.cells
  rw [hw1] at k0 k1
  have hE := rfends_any p x ⟨a, mo, fo, st⟩ a w1 hD.ref hxs hss (by omega)
  simp only at hE
  have HE := Lib.hid hE
  have hrt : Hid (rawTok (B x) ⟨a, mo, fo, st⟩ = if endsX (B x) (B st) a = true then ((dataX (B x) fo a).1, afterL ⟨a, 1, fo, st⟩ (dataX (B x) fo a)) else (txtT (if mo = 2 then allR false (pieceL (B x) a (rawEnd (B x) (B st) a)) else pieceL (B x) a (rawEnd (B x) (B st) a)), ⟨rawEnd (B x) (B st) a, mo, fo, st⟩)) := rfl
  obtain ⟨RT, hRT⟩ : ∃ r, rawTok (B x) ⟨a, mo, fo, st⟩ = r := ⟨_, rfl⟩
  rw [hRT] at hrt ⊢
  obtain ⟨eb, heb⟩ : ∃ b, endsX (B x) (B st) a = b := ⟨_, rfl⟩
  rw [heb] at HE hrt het
  have HET := Lib.hid het
  have HEB := Lib.hid heb
  clear h hD hw1 hE hRT heb het
  go_enter Tryz.func28, Tryz.ntmps28
  go_wp2_with fail
  rw [HW1.out]
  refine HE.out.mono ?_
  rintro e w2 ⟨rfl, b2⟩
  have HD2 := Lib.hid (HD.out.keep b2)
  clear b2 k0 k1
  cases eb
  · obtain ⟨k0, k1, _⟩ := HD2.out.ref.cells
    have HST := Lib.hid (show RT = (txtT (if mo = 2 then allR false (pieceL (B x) a (rawEnd (B x) (B st) a)) else pieceL (B x) a (rawEnd (B x) (B st) a)), ⟨rawEnd (B x) (B st) a, mo, fo, st⟩) from by have := hrt.out; rwa [if_neg (by decide)] at this)
    have hbd := rawEnd_bd (B x) (B st) a (by rw [← size_B]; omega)
    rw [← size_B] at hbd
    have HBD := Lib.hid hbd
    obtain ⟨R, hR⟩ : ∃ r, rawEnd (B x) (B st) a = r := ⟨_, rfl⟩
    rw [hR] at HST HBD
    have HR := Lib.hid hR
    clear hR hrt hbd
    go_upto_block 0 with (fail)
    clear k0 k1
    go_cut [3] (fun s3 wx => s3 = .int .i64 (R : Int) ∧ ReafAt w wx p x ⟨a, mo, fo, st⟩)
    case first =>
      go_wp2_with fail
      go_loopw [3] (fun s3 wr => ∃ k : Nat, s3 = .int .i64 (k : Int) ∧ ReafAt w wr p x ⟨a, mo, fo, st⟩ ∧ Hid (k ≤ x.size ∧ rawEnd (B x) (B st) k = R)) (fun s3 _ => x.size - (intOf s3).toNat)
      case atStart => exact ⟨a, rfl, HD2.out, ⟨by omega, HR.out⟩⟩
      case round =>
        obtain ⟨k, rfl, hda, HK⟩ := hrel
        have HDr := Lib.hid hda
        have hkx := HK.out.1
        have hstep := rawEnd_step (B x) (B st) k (by rw [← size_B]; exact hkx)
        rw [HK.out.2, ← size_B] at hstep
        have HST2 := Lib.hid hstep
        have HE2 := Lib.hid (rfends_any p x ⟨a, mo, fo, st⟩ k wr hda.ref hxs hss hkx)
        simp only at HE2
        obtain ⟨k0, _⟩ := hda.ref.cells
        clear hda hstep
        by_cases hlt : k < x.size
        · have d0 : decide ((k : Int) < (x.size : Int)) = true := decide_eq_true (by omega)
          obtain ⟨eb, heb⟩ : ∃ b, endsX (B x) (B st) k = b := ⟨_, rfl⟩
          rw [heb] at HE2 HST2
          clear heb
          cases eb
          · have hst := HST2.out
            rw [if_neg (by omega), if_neg (by decide)] at hst
            have HSN := Lib.hid hst
            have w1 : IntKind.i64.wrap ((k : Int) + 1) = (k : Int) + 1 := IntWalk.i64_in _ (by omega)
            clear hst
            go_wp2_with fail
            refine HE2.out.mono ?_
            rintro e w4 ⟨rfl, b4⟩
            have HD4 := Lib.hid (HDr.out.keep b4)
            clear b4
            go_wp2_with fail
            refine ⟨⟨k + 1, by go_num, HD4.out, by omega, HSN.out.symm⟩, ?_⟩
            simp [intOf]; omega
          · have hst := HST2.out
            rw [if_neg (by omega), if_pos rfl] at hst
            have HSN := Lib.hid hst
            clear hst
            go_wp2_with fail
            refine HE2.out.mono ?_
            rintro e w4 ⟨rfl, b4⟩
            have HD4 := Lib.hid (HDr.out.keep b4)
            clear b4
            go_wp2_with fail
            go_meet
            exact ⟨by rw [HSN.out], HD4.out⟩
        · have d0 : decide ((k : Int) < (x.size : Int)) = false := decide_eq_false (by omega)
          have hst := HST2.out
          rw [if_pos (by omega)] at hst
          have HSN := Lib.hid hst
          clear hst
          go_wp2_with fail
          go_meet
          exact ⟨by rw [HSN.out], HDr.out⟩
    case rest =>
      obtain ⟨rfl, hcut⟩ := hcut
      have HD3 := Lib.hid hcut
      have cc0 : ∀ n : After wc, n.W.cell? ⟨p, 0, none⟩ = some (.string x) := fun n => (after_reaf hcut n).1
      have cc1 : ∀ n : After wc, n.W.cell? ⟨p, 1, none⟩ = some (.int .i64 (a : Int)) := fun n => (after_reaf hcut n).2.1
      have i0 : (a : Int) ≤ (R : Int) := by have := HBD.out; omega
      have i1 : (R : Int) ≤ (x.size : Int) := by have := HBD.out; omega
      have m0 : a ≤ R := by have := HBD.out; omega
      have m1 : R ≤ x.size := by have := HBD.out; omega
      clear hcut
      have hxe := size_extract_le x a R
      have hpe : S (pieceL (B x) a R) = x.extract a R := by
        have := B_piece x a R
        rw [show ((B x).drop a).take (R - a) = pieceL (B x) a R from rfl] at this
        rw [← this, S_B]
      obtain ⟨px, hpx⟩ : ∃ q, x.extract a R = q := ⟨_, rfl⟩
      rw [hpx] at hxe hpe
      have HPE := Lib.hid hpe
      have hB : B px = pieceL (B x) a R := by rw [← hpe]; exact B_S _
      have HB := Lib.hid hB
      obtain ⟨k0, k1, _⟩ := (HD3.out.keep (made_drew wc)).ref.cells
      clear hpe hB
      go_upto_region 7 with (fail)
      go_cut [4] (fun s4 wx => ∃ b, s4 = .pointer (some ⟨b, 0, none⟩) ∧ Hid (Blk wx b 44 #[.int .i64 4, .string ⟨#[]⟩, .slice none 0 0, .bool false, .string px] (0, 0)) ∧ Hid (ReafAt w wx p x ⟨a, mo, fo, st⟩) ∧ Hid (w.heap.size + 1 ≤ b))
      case first =>
        have KS := Lib.hid (fun W (hW : Below wc.heap.size wc W) => (show W.cell? ⟨p, 0, none⟩ = some (.string x) ∧ W.cell? ⟨p, 1, none⟩ = some (.int .i64 (a : Int)) from ⟨(HD3.out.keep hW).ref.cells.1, (HD3.out.keep hW).ref.cells.2.1⟩))
        have HDB := Lib.hid (made_drew wc)
        have HDA := Lib.hid (tok_alloc_below wc #[.int .i64 0, .string ⟨#[]⟩, .slice none 0 0, .bool false, .string ⟨#[]⟩])
        have HZA := Lib.hid (show Blk (wc.alloc (.cells #[.int .i64 0, .string ⟨#[]⟩, .slice none 0 0, .bool false, .string ⟨#[]⟩] 44)).drew wc.heap.size 44 #[.int .i64 0, .string ⟨#[]⟩, .slice none 0 0, .bool false, .string ⟨#[]⟩] (0, 0) from Blk.new wc _ _ _)
        obtain ⟨z0, z1, z2, z3, z4, f0, f1, f2, f3, f4⟩ := cells_tokG HZA.out
        obtain ⟨a0, a1⟩ := KS.out _ HDA.out
        clear cc0 cc1
        go_region_with (fail)
        all_goals
          go_wp2_with fail
          go_meet
          exact ⟨wc.heap.size, rfl, Blk.new wc _ _ _, HD3.out.keep (tok_alloc_below wc _), HD3.out.size⟩
      case rest =>
        obtain ⟨b, rfl, HBb, HD4, HLE⟩ := hcut
        have hbs := HLE.out
        obtain ⟨c0, c1, c2, _, _, f1, _⟩ := HD4.out.ref.cells
        obtain ⟨q0, q1, q2, q3, q4, _⟩ := cells_tokG HBb.out
        clear HD3 HLE cc0 cc1 k0 k1
        by_cases hm : mo = 2
        · have d2 : (mo == 2) = true := beq_iff_eq.2 hm
          have HSX := Lib.hid (show RT = (txtT (allR false (pieceL (B x) a R)), ⟨R, mo, fo, st⟩) from by have := HST.out; rwa [if_pos hm] at this)
          have HALL := Lib.hid (rall_any px false wc (by omega))
          rw [HB.out] at HALL
          clear hm
          generalize allR false (pieceL (B x) a R) = al at *
          go_wp2_with fail
          refine HALL.out.mono ?_
          rintro e w4 ⟨rfl, b4⟩
          have HB5 := Lib.hid ((HBb.out.keep b4).set 4 (.string (S al)))
          have HB5' := Lib.hid (HBb.out.keep b4)
          obtain ⟨_, _, _, _, _, _, _, _, _, g4⟩ := cells_tokG HB5'.out
          have hD5 := HD4.out.keep b4
          have hp := hD5.base
          have hD6 : ReafAt w (w4.setCell ⟨b, 4, none⟩ (.string (S al))) p x ⟨a, mo, fo, st⟩ := hD5.butb (b := b) ((But.refl _ _).setCell _ _ (.inl rfl)) hbs
          obtain ⟨r0, r1, r2, r3, r4, _⟩ := cells_tokG (show Blk (w4.setCell ⟨b, 4, none⟩ (.string (S al))) b 44 #[.int .i64 4, .string ⟨#[]⟩, .slice none 0 0, .bool false, .string (S al)] (0, 0) from HB5.out)
          have HB6 := Lib.hid ((show Blk (w4.setCell ⟨b, 4, none⟩ (.string (S al))) b 44 #[.int .i64 4, .string ⟨#[]⟩, .slice none 0 0, .bool false, .string (S al)] (0, 0) from HB5.out).far (p := ⟨p, 1, none⟩) (by show b ≠ p; omega) (.int .i64 (R : Int)))
          obtain ⟨v0, v1, v2, v3, v4, _⟩ := cells_tokG HB6.out
          obtain ⟨_, _, _, _, _, f1', _⟩ := hD6.ref.cells
          have HD7 := Lib.hid (hD6.goto R)
          obtain ⟨hz, hto⟩ := HD7.out.out (RowA.nil _ 0) 4 ⟨#[]⟩ false (S al)
          obtain ⟨_, _, _, _, _, y0, y1, y2, y3, y4⟩ := cells_tokG HD7.out.res
          have HZ := Lib.hid hz
          have HTO := Lib.hid hto
          clear b4 hD5 hD6 hz hto HB5 HB5'
          go_wp2_with fail
          refine bodyPost_ret (v := .agg #[.int .i64 4, .string ⟨#[]⟩, .slice none 0 0, .bool false, .string (S al)]) (results_cell_row (fn := Tryz.f28) (p := 2) rfl _ _ w.heap.size _ #[.int .i64 4, .string ⟨#[]⟩, .slice none 0 0, .bool false, .string (S al)] (0, 0) _ (by rfl) HZ.out Tryz.underlying44 (by rfl) (by kernel_rfl)) rfl ?_
          rw [HSX.out]
          exact HTO.out
        · have d2 : (mo == 2) = false := beq_eq_false_iff_ne.2 hm
          have HSX := Lib.hid (show RT = (txtT (pieceL (B x) a R), ⟨R, mo, fo, st⟩) from by have := HST.out; rwa [if_neg hm] at this)
          have hp := HD4.out.base
          have HB6 := Lib.hid (HBb.out.far (p := ⟨p, 1, none⟩) (by show b ≠ p; omega) (.int .i64 (R : Int)))
          obtain ⟨v0, v1, v2, v3, v4, _⟩ := cells_tokG HB6.out
          have HD7 := Lib.hid (HD4.out.goto R)
          obtain ⟨hz, hto⟩ := HD7.out.out (RowA.nil _ 0) 4 ⟨#[]⟩ false px
          obtain ⟨_, _, _, _, _, y0, y1, y2, y3, y4⟩ := cells_tokG HD7.out.res
          have HZ := Lib.hid hz
          have HTO := Lib.hid hto
          clear hz hto hm
          go_wp2_with fail
          refine bodyPost_ret (v := .agg #[.int .i64 4, .string ⟨#[]⟩, .slice none 0 0, .bool false, .string px]) (results_cell_row (fn := Tryz.f28) (p := 2) rfl _ _ w.heap.size _ #[.int .i64 4, .string ⟨#[]⟩, .slice none 0 0, .bool false, .string px] (0, 0) _ (by rfl) HZ.out Tryz.underlying44 (by rfl) (by kernel_rfl)) rfl ?_
          rw [HSX.out]
          show RefTo w p x ⟨4, ⟨#[]⟩, [], false, S (pieceL (B x) a R)⟩ _ _ _
          rw [HPE.out]
          exact HTO.out
  · obtain ⟨_, _, _, _, _, _, f2, _⟩ := HD2.out.ref.cells
    have HSX := Lib.hid (show RT = ((dataX (B x) fo a).1, afterL ⟨a, 1, fo, st⟩ (dataX (B x) fo a)) from by have := hrt.out; rwa [if_pos rfl] at this)
    have hdt := HET.out rfl
    have HD4 := Lib.hid (HD2.out.moded 1)
    have HDT := Lib.hid (rftag_any p x ⟨a, 1, fo, st⟩ _ HD4.out.ref hxs)
    simp only at HDT
    rw [← hdt] at HDT
    generalize dataX (B x) fo a = dd at *
    obtain ⟨⟨tk, tn, ta, tsf, tt⟩, tto⟩ := dd
    clear hrt hdt
    go_wp2_with fail
    refine HDT.out.mono ?_
    intro e w5 hto5
    obtain ⟨A, c, rfl, hrow, hd5⟩ := HD4.out.pass hto5
    obtain ⟨hz, hto⟩ := hd5.out hrow tk tn tsf tt
    obtain ⟨_, _, _, _, _, y0, y1, y2, y3, y4⟩ := cells_tokG hd5.res
    have HZ := Lib.hid hz
    have HTO := Lib.hid hto
    unfold tkG
    clear hz hto hd5 hrow hto5
    go_wp2_with fail
    refine bodyPost_ret (v := .agg #[.int .i64 tk, .string tn, .slice A ta.length c, .bool tsf, .string tt]) (results_cell_row (fn := Tryz.f28) (p := 2) rfl _ _ w.heap.size _ #[.int .i64 tk, .string tn, .slice A ta.length c, .bool tsf, .string tt] (0, 0) _ (by rfl) HZ.out Tryz.underlying44 (by rfl) (by kernel_rfl)) rfl ?_
    rw [HSX.out]
    exact HTO.out
end Go.Proofs.YtdjeajbinpgpiaaGreat
