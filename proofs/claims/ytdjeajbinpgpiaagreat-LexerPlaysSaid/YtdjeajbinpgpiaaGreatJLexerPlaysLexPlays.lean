/- LexerPlays, walked. -/
import Derived.Test.YtdjeajbinpgpiaaGreatJLexerTellsLexSame
import Derived.Test.YtdjeajbinpgpiaaGreatJLexerTellsMarkup
import Derived.Test.YtdjeajbinpgpiaaGreatJLexerPlaysArgLasks
namespace Go.Proofs.YtdjeajbinpgpiaaGreat
open Go.RowKit Go.BigFrame

set_option maxHeartbeats 1000000 in
theorem lforeign_any (p : Nat) (x : ByteArray) (s : Lx) (f : Bool) (w : World) (h : LexAt w p x s) :
    Calls Tryz.prog 14 #[.pointer (some ⟨p, 0, none⟩), .bool f] w fun e w' => (∃ v, e = .returned v) ∧ LexAt w' p x { s with fo := f } ∧ But (fun k => k = p) w w' := by
  have hs : LexAt (w.setCell ⟨p, 3, none⟩ (.bool f)) p x { s with fo := f } := Blk.set h 3 (.bool f)
  have hb : But (fun k => k = p) w (w.setCell ⟨p, 3, none⟩ (.bool f)) := (But.refl _ w).setCell _ _ (.inl rfl)
  obtain ⟨k0, k1, k2, k3, k4, f1, f2, f3, f4⟩ := h.cells
  have HS := Lib.hid (And.intro hs hb)
  clear h hs hb
  go_enter Tryz.func14, Tryz.ntmps14
  go_wp2_with fail
  refine bodyPost_end (results_none rfl _ _ _) rfl ?_
  exact ⟨⟨_, rfl⟩, HS.out⟩
set_option maxHeartbeats 1000000 in
theorem lat_anyP (p : Nat) (x : ByteArray) (s : Lx) (w : World) (h : LexAt w p x s) :
    Calls Tryz.prog 18 #[.pointer (some ⟨p, 0, none⟩)] w fun e w' => e = .returned (.int .i64 s.at_) ∧ w = w' := by
  obtain ⟨k0, k1, k2, k3, k4, f1, f2, f3, f4⟩ := h.cells
  clear h
  go_enter Tryz.func18, Tryz.ntmps18
  go_wp2_with fail
  go_ret
  exact ⟨rfl, rfl⟩
theorem lks_at {w : World} {ad : Addr} {l : List Lk} {j : Nat} {y : Lk} (hc : ∀ j u, (l.flatMap enc_lk)[j]? = some u → w.cell? (ad.add j) = some u) (hx : l[j]? = some y) :
    w.cell? (ad.add (j * 3)) = some (.int .i64 y.kd) ∧ w.cell? { ad.add (j * 3) with off := (ad.add (j * 3)).off + 1, spot := none } = some (.int .i64 y.n) ∧ w.cell? { ad.add (j * 3) with off := (ad.add (j * 3)).off + 2, spot := none } = some (.bool y.b) := by
  have h0 := hc (j * 3 + 0) _ (row_at encOk_lk l j 0 y _ hx rfl)
  have h1 := hc (j * 3 + 1) _ (row_at encOk_lk l j 1 y _ hx rfl)
  have h2 := hc (j * 3 + 2) _ (row_at encOk_lk l j 2 y _ hx rfl)
  simp only [Nat.add_zero] at h0
  rw [← Go.Deep.add_add] at h1 h2
  exact ⟨h0, (Addr.add_succ' (ad.add (j * 3)) 0) ▸ h1, (Addr.add_succ' (ad.add (j * 3)) 1) ▸ h2⟩
/-- Both lexers, side by side. -/
structure PlayAt (w0 w : World) (p q : Nat) (x : ByteArray) (s : Lx) : Prop where
  lex : LexAt w p x s
  ref : RefAt w q x s
  below : Below w0.heap.size w0 w
  ok : StOk s
  at_ : s.at_ ≤ x.size
  st : s.st.size ≤ 65534
theorem PlayAt.both {w0 w w1 w2 : World} {p q : Nat} {x : ByteArray} {s s1 : Lx} (h : PlayAt w0 w p q x s) (hp : w0.heap.size ≤ p) (hq : w0.heap.size ≤ q) (hpq : p ≠ q) (h1 : LexAt w1 p x s1) (b1 : But (fun k => k = p) w w1) (h2 : RefAt w2 q x s1) (b2 : But (fun k => k = q) w1 w2) (hok : StOk s1) (hat : s1.at_ ≤ x.size) (hst : s1.st.size ≤ 65534) : PlayAt w0 w2 p q x s1 :=
  ⟨Blk.but h1 b2 hpq, h2, (h.below.trans (b1.below (B := w0.heap.size) (fun k hk => by omega) h.below.size)).trans (b2.below (B := w0.heap.size) (fun k hk => by omega) (Nat.le_trans h.below.size b1.size)), hok, hat, hst⟩
theorem PlayAt.keep {w0 w w1 : World} {p q : Nat} {x : ByteArray} {s : Lx} (h : PlayAt w0 w p q x s) (hb : Below w.heap.size w w1) : PlayAt w0 w1 p q x s :=
  ⟨h.lex.keep hb, h.ref.keep hb, below_then h.below h.below.size hb, h.ok, h.at_, h.st⟩
theorem PlayAt.refKeep {w0 w w1 : World} {p q : Nat} {x : ByteArray} {s : Lx} (h : PlayAt w0 w p q x s) (hpq : p ≠ q) (b1 : But (fun k => k = p) w w1) : RefAt w1 q x s := Blk.but h.ref b1 (fun e => hpq e.symm)
set_option maxHeartbeats 8000000 in
set_option maxRecDepth 100000 in
theorem walk_LexerPlays (a0 : ByteArray) (A : Option Addr) (c : Nat) (l : List Int) (A2 : Option Addr) (c2 : Nat) (l2 : List Lk) (w0 : a0.size ≤ maxLen) (w : World) (hL : Lax w) (hr : Rd w A l.length 1 (l.flatMap enc_int)) (_hlc : l.length ≤ c) (_hcm : c ≤ maxLen) (hr2 : Rd w A2 l2.length 3 (l2.flatMap enc_lk)) (hlc2 : l2.length ≤ c2) (hcm2 : c2 ≤ maxLen) :
    Calls Tryz.prog 5 #[.string a0, .slice A l.length c, .slice A2 l2.length c2] w fun e w' => e = .returned (.bool true) ∧ Below w.heap.size w w' := by
  unfold maxLen at w0 hcm2
  have hh := headB_le a0 60
  have HH := Lib.hid (fun w => head_any a0 60 w (by decide) (by omega))
  rw [show (60 : Int).toNat = 60 from rfl] at HH
  generalize headB a0 60 = h at *
  have HL := Lib.hid hL
  have HR2 := Lib.hid hr2
  have HMU := Lib.hid (markup_any 15 (by omega) A c l w.drew (hr.keep (made_drew w)))
  rw [show ((15 : Nat) : Int) = 15 from rfl] at HMU
  have hn2 : l2.length ≤ 9223372036854775807 := by omega
  clear hL w0 hr hr2 hlc2 hcm2
  go_enter Tryz.func5, Tryz.ntmps5
  go_upto_region 1 with (fail)
  go_cut [0] (fun s0 wx => ∃ x : ByteArray, s0 = .string x ∧ x.size ≤ 1400 ∧ Hid (Below w.heap.size w wx))
  case first =>
    go_region_with ((first
      | (go_at_call 9
         with_reducible refine HMU.out.mono ?_
         rintro e w2 ⟨m, g, cap, rfl, hm, hby, b2⟩
         have kc := run_convert_bytes_back (P := Tryz.prog) w2 27 9 5 ⟨g, 0, none⟩ cap (B m) Tryz.underlying27 Tryz.underlying5 Tryz.underlying9 hby
         rw [← size_B, show (⟨(B m).toArray⟩ : ByteArray) = m from S_B m] at kc
         have HB2 := Lib.hid (below_then (made_drew w) (made_drew w).size b2)
         have q1 : m.size + h.size ≤ 9223372036854775807 := by omega
         have q2 : (m ++ h).size + (⟨#[60, 33, 91, 67, 68, 65, 84, 65, 91, 113, 93, 93, 62, 60, 33, 45, 45, 122, 45, 45, 62]⟩ : ByteArray).size ≤ 9223372036854775807 := by rw [ByteArray.size_append]; show _ + 21 ≤ _; omega
         have HZ := Lib.hid (show ((m ++ h) ++ ⟨#[60, 33, 91, 67, 68, 65, 84, 65, 91, 113, 93, 93, 62, 60, 33, 45, 45, 122, 45, 45, 62]⟩).size ≤ 1400 by rw [ByteArray.size_append, ByteArray.size_append]; show _ + 21 ≤ _; omega)
         clear hby b2)
      | (go_at_call 8
         with_reducible refine (HH.out _).mono ?_
         rintro e w3 ⟨rfl, rfl⟩)))
    all_goals
      go_wp2_with fail
      go_meet
      exact ⟨_, rfl, HZ.out, HB2.out⟩
  case rest =>
    obtain ⟨x, rfl, hxs, HB1⟩ := hcut
    have HNW := Lib.hid (lnew_any x wc)
    clear HMU HH hh
    go_wp2_with fail
    refine HNW.out.mono ?_
    rintro e w2 ⟨rfl, hlex, b2⟩
    have hB2 := below_then HB1.out HB1.out.size b2
    have HB2 := Lib.hid hB2
    have hwp := HB1.out.size
    have hpl : wc.heap.size < w2.heap.size := Blk.lt hlex
    generalize wc.heap.size = p at *
    have HX2 := Lib.hid hlex
    clear b2 hlex hB2
    go_wp2_with fail
    refine (rfnew_any x w2).mono ?_
    rintro e w3 ⟨rfl, href, b3⟩
    have hpq : p ≠ w2.heap.size := by omega
    have hwq : w.heap.size ≤ w2.heap.size := by omega
    have HP := Lib.hid (show PlayAt w w3 p w2.heap.size x startL from ⟨HX2.out.keep b3, href, below_then HB2.out HB2.out.size b3, stOk_start, Nat.zero_le _, Nat.zero_le _⟩)
    generalize w2.heap.size = q at *
    clear b3 href hpl
    go_wp2_with fail
    go_loopw [9] (fun iv wr => ∃ (i : Nat) (s : Lx), i ≤ l2.length ∧ iv = .int .i64 i ∧ PlayAt w wr p q x s) (fun iv _ => l2.length - (intOf iv).toNat)
    case atStart => exact ⟨0, startL, Nat.zero_le _, rfl, HP.out⟩
    case round =>
      obtain ⟨i, s, hi, rfl, hpa⟩ := hrel
      have HPA := Lib.hid hpa
      have HKN := Lib.hid (lex_known wr (HL.out.below hpa.below))
      clear hpa
      by_cases hlt : i < l2.length ∧ i < 60
      · obtain ⟨hlt, h60⟩ := hlt
        have d0 : decide ((i : Int) < (l2.length : Int)) = true := decide_eq_true (by omega)
        have d1 : decide ((i : Int) < 60) = true := decide_eq_true (by omega)
        obtain ⟨y, hy⟩ : ∃ y, l2[i]? = some y := ⟨_, List.getElem?_eq_getElem hlt⟩
        obtain ⟨ad, rfl, hc⟩ := (HR2.out.keep HPA.out.below).2.2 (by omega)
        obtain ⟨g0, g1, g2⟩ := lks_at hc hy
        have KG := Lib.hid (fun W (hW : Below w.heap.size w W) => (lks_at (fun j u hu => by
          obtain ⟨ad2, e2, hc2⟩ := (HR2.out.keep hW).2.2 (by omega)
          cases e2
          exact hc2 j u hu) hy : W.cell? (ad.add (i * 3)) = some (.int .i64 y.kd) ∧ _ ∧ _))
        have s1 : IntKind.i64.wrap ((i : Int) + 1) = (i : Int) + 1 := IntWalk.i64_in _ (by omega)
        obtain ⟨kd, n, fb⟩ := y
        simp only at g0 g1 g2 KG
        clear hc hy
        go_upto_block 2 with (fail)
        go_cut [] (fun wx => ∃ s2, PlayAt w wx p q x s2)
        case first =>
          have hcase : (kd == 2) = true ∨ ((kd == 2) = false ∧ (kd == 3) = true) ∨ ((kd == 2) = false ∧ (kd == 3) = false) := by
            cases kd == 2 <;> cases kd == 3 <;> simp
          rcases hcase with e2 | ⟨e2, e3⟩ | ⟨e2, e3⟩
          · have HS1 := Lib.hid (lset_any p x s n wr HPA.out.lex)
            go_wp2_with fail
            refine HS1.out.mono ?_
            rintro e w4 ⟨⟨v4, rfl⟩, hlex, b4⟩
            have hrf := HPA.out.refKeep hpq b4
            have HS2 := Lib.hid (rfset_any q x s n w4 hrf)
            have HX4 := Lib.hid hlex
            have HB4 := Lib.hid b4
            have hbw := HPA.out.below.trans (b4.below (B := w.heap.size) (fun k hk => by omega) HPA.out.below.size)
            obtain ⟨g0', g1', g2'⟩ := KG.out w4 hbw
            clear hlex b4 hrf hbw g0 g1 g2
            go_wp2_with fail
            refine HS2.out.mono ?_
            rintro e w5 ⟨⟨v5, rfl⟩, href, b5⟩
            have HP5 := Lib.hid (HPA.out.both hwp hwq hpq HX4.out HB4.out href b5 (stOk_set n HPA.out.ok) HPA.out.at_ HPA.out.st)
            clear href b5
            go_wp2_with fail
            go_meet
            exact ⟨_, HP5.out⟩
          · have HS1 := Lib.hid (lforeign_any p x s fb wr HPA.out.lex)
            go_wp2_with fail
            refine HS1.out.mono ?_
            rintro e w4 ⟨⟨v4, rfl⟩, hlex, b4⟩
            have hrf := HPA.out.refKeep hpq b4
            have hbw := HPA.out.below.trans (b4.below (B := w.heap.size) (fun k hk => by omega) HPA.out.below.size)
            obtain ⟨g0', g1', g2'⟩ := KG.out w4 hbw
            obtain ⟨_, _, _, _, _, _, _, _, f4⟩ := hrf.cells
            have HP5 := Lib.hid (HPA.out.both hwp hwq hpq hlex b4 (hrf.foreign fb) ((But.refl (fun k => k = q) w4).setCell ⟨q, 4, none⟩ (.bool fb) (.inl rfl)) HPA.out.ok HPA.out.at_ HPA.out.st)
            clear hlex b4 hrf hbw g0 g1 g2
            go_wp2_with fail
            go_meet
            exact ⟨_, HP5.out⟩
          · have hgo := nextL_goes (B x) s (by rw [← size_B]; exact HPA.out.at_)
            have hok := stOk_next (B x) s (by rw [← size_B]; exact HPA.out.at_) HPA.out.ok
            have hfew := nextL_few (B x) s (by rw [← size_B]; exact HPA.out.at_)
            rw [← size_B] at hgo hfew
            have HN1 := Lib.hid (lnext_any p x s wr HPA.out.lex ⟨by omega, HPA.out.at_, by have := HPA.out.st; omega, HL.out.below HPA.out.below⟩)
            have HN2 := Lib.hid (fun W (hW : RefAt W q x s) => rfnext_any q x s W hW (by omega) HPA.out.at_ HPA.out.st HPA.out.ok)
            obtain ⟨NX, hNX⟩ : ∃ r, nextL (B x) s = r := ⟨_, rfl⟩
            rw [hNX] at hgo hok hfew HN1 HN2
            have HGO := Lib.hid (show NX.2.at_ ≤ x.size ∧ NX.2.st.size ≤ 65534 from by
              rcases hgo with ⟨_, h2, h3⟩ | ⟨_, _, h3, h4⟩
              · exact ⟨by omega, by rw [h3]; exact HPA.out.st⟩
              · refine ⟨h3, ?_⟩
                rcases h4 with e | e
                · rw [e]; exact HPA.out.st
                · omega)
            have HOK := Lib.hid hok
            obtain ⟨t, s2⟩ := NX
            simp only at HN1 HN2 HGO HOK hfew
            unfold TokTo at HN1
            unfold RefTo at HN2
            clear hNX hgo hok g1 g2
            go_wp2_with fail
            refine HN1.out.mono ?_
            rintro e w4 ⟨A4, c4, rfl, hrow4, hlex, b4⟩
            have hrf := HPA.out.refKeep hpq b4
            have HX4 := Lib.hid hlex
            have HB4 := Lib.hid b4
            have HRF := Lib.hid hrf
            have HRW4 := Lib.hid hrow4
            clear hlex b4 hrf hrow4 g0
            go_wp2_with fail
            refine (HN2.out _ HRF.out).mono ?_
            rintro e w5 ⟨A5, c5, rfl, hrow5, href, b5⟩
            have HR4 := Lib.hid (HRW4.out.ref HRF.out b5)
            have HP5 := Lib.hid (HPA.out.both hwp hwq hpq HX4.out HB4.out href b5 HOK.out HGO.out.1 HGO.out.2)
            have HTK := Lib.hid (gtoken_keep t A4 A5 c4 c5 w5 (rowa_rd HR4.out) (rowa_rd hrow5) (by omega))
            clear hrow5 href b5
            go_wp2_with fail
            refine HTK.out.mono ?_
            rintro e w6 ⟨rfl, b6⟩
            have HP6 := Lib.hid (HP5.out.keep b6)
            clear b6
            go_wp2_with fail
            go_meet
            exact ⟨_, HP6.out⟩
        case rest =>
          obtain ⟨s2, hp2⟩ := hcut
          have HP2 := Lib.hid hp2
          have cc1 : ∀ n : After wc, n.W.cell? ⟨q, 1, none⟩ = some (.int .i64 (s2.at_ : Int)) := fun n => (hp2.ref.keep n.below).cells.2.1
          have HAT := Lib.hid (fun n : After wc => lat_anyP p x s2 n.W (hp2.lex.keep n.below))
          clear hp2 g0 g1 g2
          go_wp2_with fail
          refine wp_region_after (by kernel_rfl) (by kernel_rfl) ?_
          repeat (any_goals (go_big_quiet_step ((go_at_call 18; with_reducible exact call_same (HAT.out _)))))
          refine wpQuiet_nil ?_
          rintro w' ⟨n1, rfl⟩
          have HP3 := Lib.hid (HP2.out.keep n1.below)
          clear cc1
          go_wp2_with fail
          exact ⟨⟨i + 1, s2, by omega, by go_num, HP3.out⟩, by simp [intOf]; omega⟩
      · have hcase : (decide ((i : Int) < (l2.length : Int)) = false ∧ ¬ i < l2.length) ∨ (decide ((i : Int) < (l2.length : Int)) = true ∧ decide ((i : Int) < 60) = false ∧ i < l2.length ∧ ¬ i < 60) := by
          by_cases h1 : i < l2.length
          · exact .inr ⟨decide_eq_true (by omega), decide_eq_false (by omega), h1, by omega⟩
          · exact .inl ⟨decide_eq_false (by omega), h1⟩
        clear hlt
        rcases hcase with ⟨d0, m0⟩ | ⟨d0, d1, m0, m1⟩
        all_goals
          go_wp2_with fail
          refine HKN.out.mono ?_
          rintro e w3 ⟨rfl, b1⟩
          have HB5 := Lib.hid (below_then HPA.out.below HPA.out.below.size b1)
          clear b1
          go_wp2_with fail
          go_ret
          exact ⟨rfl, HB5.out⟩
end Go.Proofs.YtdjeajbinpgpiaaGreat
