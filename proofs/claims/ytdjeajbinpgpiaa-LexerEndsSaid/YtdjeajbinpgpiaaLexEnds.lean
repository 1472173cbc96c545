/- LexerEnds, walked. -/
import Derived.Test.YtdjeajbinpgpiaaEndsR
import Derived.Test.YtdjeajbinpgpiaaEndsM
import Derived.Test.YtdjeajbinpgpiaaLexA0
import Derived.Test.YtdjeajbinpgpiaaKeepH
import Derived.Test.YtdjeajbinpgpiaaArgInts
import Derived.LoopN
namespace Go.Proofs.Ytdjeajbinpgpiaa
open Go.RowKit

/-- Bytes in memory. -/
def BytesAt (w : World) (g : Nat) (x : ByteArray) : Prop := ∀ j (hj : j < (B x).length), w.cell? ((⟨g, 0, none⟩ : Addr).add j) = some (.int .u8 ((B x)[j].toNat : Int))
set_option maxHeartbeats 4000000 in
theorem markup_any (A : Option Addr) (c : Nat) (l : List Int) (w : World) (hr : Rd w A l.length 1 (l.flatMap enc_int)) :
    Calls Try.prog 11 #[.slice A l.length c, .int .i64 20] w fun e w' => ∃ (x : ByteArray) (g cap : Nat), e = .returned (.slice (some ⟨g, 0, none⟩) x.size cap) ∧ x.size ≤ 1200 ∧ BytesAt w' g x ∧ Below w.heap.size w w' := by
  have HR := Lib.hid hr
  clear hr
  go_enter Try.func11, Try.ntmps11
  go_wp2_with fail
  go_loopw [5, 6] (fun xv iv wr => ∃ (j : Nat) (x : ByteArray), j ≤ l.length ∧ j ≤ 20 ∧ x.size ≤ 60 * j ∧ xv = .string x ∧ iv = .int .i64 j ∧ Below w.heap.size w wr) (fun _ iv _ => l.length - (intOf iv).toNat)
  case atStart => exact ⟨0, ⟨#[]⟩, Nat.zero_le _, by omega, Nat.le_refl 0, rfl, rfl, Below.refl _ _⟩
  case round =>
    obtain ⟨j, x, hj, hj20, hx, rfl, rfl, hb⟩ := hrel
    have HB := Lib.hid hb
    clear hb
    by_cases hlt : j < l.length ∧ j < 20
    · obtain ⟨hlt, h20⟩ := hlt
      have d0 : decide ((j : Int) < (l.length : Int)) = true := decide_eq_true (by omega)
      have d1 : decide ((j : Int) < 20) = true := decide_eq_true (by omega)
      obtain ⟨y, hy⟩ : ∃ y, l[j]? = some y := ⟨_, List.getElem?_eq_getElem hlt⟩
      obtain ⟨a1, rfl, hc1⟩ := (HR.out.keep HB.out).2.2 (by omega)
      have k1 := hc1 j _ (by have := row_at encOk_int l j 0 y _ hy rfl; simpa using this)
      have s1 : IntKind.i64.wrap ((j : Int) + 1) = (j : Int) + 1 := IntWalk.i64_in _ (by omega)
      clear hc1 hy
      go_wp2_with fail
      refine (bwithin_any y 0 1048576 _ (by decide) (by decide) (by decide)).mono ?_
      rintro e w1 ⟨rfl, rfl⟩
      generalize withinI y 0 1048576 = n
      go_wp2_with fail
      refine (piece_size _ _ _).mono ?_
      rintro e w2 ⟨z, rfl, hz, b2⟩
      have HB2 := Lib.hid (below_then HB.out HB.out.size b2)
      have hsum : x.size + z.size ≤ 9223372036854775807 := by omega
      have HX2 := Lib.hid (show (x ++ z).size ≤ 60 * (j + 1) by rw [ByteArray.size_append]; omega)
      clear b2
      go_wp2_with fail
      exact ⟨⟨j + 1, x ++ z, by omega, by omega, HX2.out, rfl, by go_num, HB2.out⟩, by simp [intOf]; omega⟩
    · have hcase : (decide ((j : Int) < (l.length : Int)) = false ∧ ¬ j < l.length) ∨ (decide ((j : Int) < (l.length : Int)) = true ∧ decide ((j : Int) < 20) = false ∧ j < l.length ∧ ¬ j < 20) := by
        by_cases h1 : j < l.length
        · exact .inr ⟨decide_eq_true (by omega), decide_eq_false (by omega), h1, by omega⟩
        · exact .inl ⟨decide_eq_false (by omega), h1⟩
      have kc := fun (w : World) => run_bytes_of_string (P := Try.prog) w 9 34 5 x Try.underlying9 Try.underlying34 Try.underlying5
      have hcell : BytesAt (wr.drew.alloc (.cells (bytesRow x (grownCap wr x.size 0 5)) 5 ((bytesRow x (grownCap wr x.size 0 5)).size, (bytesRow x (grownCap wr x.size 0 5)).size + 1))) wr.heap.size x := fun i hi => by
        rw [add0]
        rw [show wr.heap.size = wr.drew.heap.size from rfl, World.cell?_alloc_mark, bytesRow_at x _ i (by simpa [B] using hi)]
        simp [B]
      have HCE := Lib.hid hcell
      have HBE := Lib.hid (below_then HB.out HB.out.size ((made_drew wr).alloc (made_drew wr).size (.cells (bytesRow x (grownCap wr x.size 0 5)) 5 ((bytesRow x (grownCap wr x.size 0 5)).size, (bytesRow x (grownCap wr x.size 0 5)).size + 1))))
      clear hlt hcell
      rcases hcase with ⟨d0, m0⟩ | ⟨d0, d1, m0, m1⟩
      all_goals
        go_wp2_with fail
        go_ret
        exact ⟨x, _, _, rfl, by omega, HCE.out, HBE.out⟩
set_option maxHeartbeats 1000000 in
theorem lat_any (p : Nat) (x : ByteArray) (s : Lx) (w : World) (h : LexAt w p x s) :
    Calls Try.prog 13 #[.pointer (some ⟨p, 0, none⟩)] w fun e w' => e = .returned (.int .i64 s.at_) ∧ w = w' := by
  obtain ⟨k0, k1, k2, k3, k4, f1, f2, f3, f4⟩ := h.cells
  clear h
  go_enter Try.func13, Try.ntmps13
  go_wp2_with fail
  go_ret
  exact ⟨rfl, rfl⟩
set_option maxHeartbeats 8000000 in
set_option maxRecDepth 100000 in
theorem walk_LexerEnds (a0 : ByteArray) (A : Option Addr) (c : Nat) (l : List Int) (w0 : a0.size ≤ maxLen) (w : World) (hL : Lax w) (hr : Rd w A l.length 1 (l.flatMap enc_int)) (_hlc : l.length ≤ c) (_hcm : c ≤ maxLen) :
    Calls Try.prog 6 #[.string a0, .slice A l.length c] w fun e w' => e = .returned (.bool true) ∧ Below w.heap.size w w' := by
  unfold maxLen at w0
  have hh := headB_le a0 100
  have HH := Lib.hid (fun w => head_any a0 100 w (by decide) (by omega))
  rw [show (100 : Int).toNat = 100 from rfl] at HH
  generalize headB a0 100 = h at *
  have HL := Lib.hid hL
  have HKN := Lib.hid (fun W (hW : Below w.heap.size w W) => lex_known W (hL.below hW))
  have HMU := Lib.hid (markup_any A c l w hr)
  clear hL w0 hr
  go_enter Try.func6, Try.ntmps6
  go_wp2_with fail
  refine (HH.out _).mono ?_
  rintro e w1 ⟨rfl, rfl⟩
  go_wp2_with fail
  refine HMU.out.mono ?_
  rintro e w1 ⟨m, g, cap, rfl, hm, hby, b1⟩
  have kc := run_convert_bytes_back (P := Try.prog) w1 34 9 5 ⟨g, 0, none⟩ cap (B m) Try.underlying34 Try.underlying5 Try.underlying9 hby
  rw [← size_B, show (⟨(B m).toArray⟩ : ByteArray) = m from S_B m] at kc
  have q1 : h.size + m.size ≤ 9223372036854775807 := by omega
  have hxs : (h ++ m).size ≤ 1300 := by rw [ByteArray.size_append]; omega
  obtain ⟨x, hx⟩ : ∃ x, h ++ m = x := ⟨_, rfl⟩
  have HXE := Lib.hid hx
  rw [hx] at hxs
  have HNW := Lib.hid (lnew_any x w1)
  have HB1 := Lib.hid b1
  have hp := b1.size
  clear hby b1 hx
  go_wp2_with fail
  rw [HXE.out]
  refine HNW.out.mono ?_
  rintro e w2 ⟨rfl, hlex, b2⟩
  generalize w1.heap.size = p at *
  have HX0 := Lib.hid hlex
  have HB2 := Lib.hid (show Below w.heap.size w w2 from HB1.out.trans (b2.mono hp))
  clear hlex b2 kc
  go_wp2_with fail
  go_loopw [6] (fun nv wr => ∃ (n : Nat) (s : Lx), n ≤ s.at_ ∧ s.at_ ≤ x.size ∧ nv = .int .i64 n ∧ Hid (s.mode = 1 ∧ s.fo = false ∧ s.st.size ≤ 65536) ∧ LexAt wr p x s ∧ Below w.heap.size w wr) (fun nv _ => x.size + 1 - (intOf nv).toNat)
  case atStart => exact ⟨0, startL, Nat.le_refl _, Nat.zero_le _, rfl, ⟨rfl, rfl, Nat.zero_le _⟩, HX0.out, HB2.out⟩
  case round =>
    obtain ⟨n, s, hn, hs, rfl, HS, hlx, hb⟩ := hrel
    have d0 : decide ((n : Int) ≤ (x.size : Int)) = true := decide_eq_true (by omega)
    have s1 : IntKind.i64.wrap ((n : Int) + 1) = (n : Int) + 1 := IntWalk.i64_in _ (by omega)
    have HAT := Lib.hid (lat_any p x s wr hlx)
    have HNX := Lib.hid (lnext_any p x s wr hlx ⟨by omega, hs, HS.out.2.2, HL.out.below hb⟩)
    have hgo := nextL_goes (B x) s (by rw [← size_B]; exact hs)
    have hri := next_right (B x) s (by rw [← size_B]; exact hs) HS.out.1 HS.out.2.1
    have HB := Lib.hid hb
    generalize nextL (B x) s = nt at *
    obtain ⟨t, s2⟩ := nt
    simp only at hgo hri HNX
    rw [← size_B] at hgo hri
    have HGO := Lib.hid hgo
    have HRI := Lib.hid hri
    unfold TokTo at HNX
    clear hgo hri hlx hb HX0 HB2
    go_wp2_with fail
    refine HAT.out.mono ?_
    rintro e w3 ⟨rfl, rfl⟩
    go_wp2_with fail
    refine HNX.out.mono ?_
    rintro e w4 ⟨A4, c4, rfl, hrow, hlex, hbut⟩
    have hb4 := HB.out.trans (hbut.below (B := w.heap.size) (fun k hk => by omega) HB.out.size)
    have hba := below_tokG w4 (enc_tk ⟨t, A4, c4⟩).toArray
    have h5 := Blk.new w4 27 (enc_tk ⟨t, A4, c4⟩).toArray (0, 0)
    obtain ⟨w5, hw5⟩ : ∃ w5, w5 = w4.alloc (.cells #[.int .i64 t.kd, .string t.nm, .slice A4 t.al.length c4, .bool t.sf, .string t.tx] 27) := ⟨_, rfl⟩
    have HW5 := Lib.hid hw5.symm
    have hba : Below w4.heap.size w4 w5 := by rw [hw5]; exact hba
    have h5 : Blk w5 w4.heap.size 27 #[.int .i64 t.kd, .string t.nm, .slice A4 t.al.length c4, .bool t.sf, .string t.tx] (0, 0) := by rw [hw5]; exact h5
    obtain ⟨A5, c5, hv5, hrd5⟩ := hrow.read
    injection hv5 with e1 e2 e3
    rw [← e1] at hrd5
    have HRD := Lib.hid (hrd5.keep hba)
    have HX5 := Lib.hid (hlex.keep hba)
    have HB5 := Lib.hid (hb4.trans (hba.mono hb4.size))
    have H5 := Lib.hid h5
    obtain ⟨q0, q1, q2, q3, q4, _⟩ := cells_tokG h5
    rw [hw5] at q0 q1 q2 q3 q4
    have HA5 := Lib.hid (lat_any p x s2 w5 HX5.out)
    unfold tkG
    clear hrow hlex hbut hb4 hba h5 hw5 hrd5 e1 e2 e3
    rcases HGO.out with ⟨h1, h2, h3⟩ | ⟨h1, h2, h3, h4⟩
    · have d6 : (t.kd == 6) = true := by rw [h1]; rfl
      have hnx : nextL (B x) s2 = (eofT, s2) := by
        unfold nextL
        rw [if_pos (by rw [← size_B]; omega)]
      have HN2 := Lib.hid (lnext_any p x s2 w5 HX5.out ⟨by omega, by omega, by rw [h3]; exact HS.out.2.2, HL.out.below HB5.out⟩)
      rw [hnx] at HN2
      have HN2 : Hid (Calls Try.prog 14 #[.pointer (some ⟨p, 0, none⟩)] w5 fun e w' => ∃ A c, e = .returned (.agg #[.int .i64 6, .string ⟨#[]⟩, .slice A 0 c, .bool false, .string ⟨#[]⟩]) ∧ But (fun k => k = p) w5 w') :=
        HN2.out.mono fun e w' ⟨A, c, he, _, _, hb⟩ => ⟨A, c, he, hb⟩
      have d7 : ((s2.at_ : Int) == (x.size : Int)) = true := beq_iff_eq.2 (by omega)
      clear h1 h2 h3 hnx
      go_wp2_with fail
      rw [HW5.out]
      refine HA5.out.mono ?_
      rintro e w6 ⟨rfl, rfl⟩
      go_wp2_with fail
      refine HN2.out.mono ?_
      rintro e w6 ⟨A6, c6, rfl, hbut⟩
      have kf : ∀ W, (Instr.field 27 (.agg #[.int .i64 6, .string ⟨#[]⟩, .slice A6 0 c6, .bool false, .string ⟨#[]⟩]) 0).run Try.prog W = .ok (.int .i64 6) W := fun W => by kernel_rfl
      have HB6 := Lib.hid (HB5.out.trans (hbut.below (B := w.heap.size) (fun k hk => by omega) HB5.out.size))
      clear hbut
      go_wp2_with fail
      refine (HKN.out _ HB6.out).mono ?_
      rintro e w7 ⟨rfl, b7⟩
      have HB7 := Lib.hid (below_then HB6.out HB6.out.size b7)
      clear b7
      go_wp2_with fail
      go_ret
      exact ⟨rfl, HB7.out⟩
    · have d6 : (t.kd == 6) = false := beq_eq_false_iff_ne.2 h1
      have hrt : RightTk x.size t := by
        rcases HRI.out.2.2 with e | e
        · exact absurd (by rw [e]; rfl) h1
        · exact e
      have HRT := Lib.hid (right_tk t A4 c4 x.size (by omega) w5 hrt HRD.out)
      unfold tkG at HRT
      have d7 : decide ((s2.at_ : Int) ≤ (s.at_ : Int)) = false := decide_eq_false (by omega)
      have d8 : decide ((s2.at_ : Int) > (x.size : Int)) = false := decide_eq_false (by omega)
      have HSN := Lib.hid (show s2.mode = 1 ∧ s2.fo = false ∧ s2.st.size ≤ 65536 from ⟨HRI.out.1, HRI.out.2.1, by
        rcases h4 with e | e
        · rw [e]; exact HS.out.2.2
        · omega⟩)
      have HNN := Lib.hid (show n + 1 ≤ s2.at_ ∧ s2.at_ ≤ x.size from ⟨by omega, h3⟩)
      have n7 : ¬ (s2.at_ ≤ s.at_) := by omega
      have n8 : ¬ (x.size < s2.at_) := by omega
      clear h1 h4 hrt
      go_wp2_with fail
      rw [HW5.out]
      obtain ⟨r0, r1, r2, r3, r4, _⟩ := cells_tokG H5.out
      clear q0 q1 q2 q3 q4
      refine HA5.out.mono ?_
      rintro e w6 ⟨rfl, rfl⟩
      go_wp2_with fail
      refine HA5.out.mono ?_
      rintro e w6 ⟨rfl, rfl⟩
      go_wp2_with fail
      refine HRT.out.mono ?_
      rintro e w7 ⟨rfl, b7⟩
      have HX7 := Lib.hid (HX5.out.keep b7)
      have HB7 := Lib.hid (below_then HB5.out HB5.out.size b7)
      clear b7 r0 r1 r2 r3 r4
      go_wp2_with fail
      exact ⟨⟨n + 1, s2, HNN.out.1, HNN.out.2, by go_num, HSN.out, HX7.out, HB7.out⟩, by simp [intOf]; omega⟩
end Go.Proofs.Ytdjeajbinpgpiaa
