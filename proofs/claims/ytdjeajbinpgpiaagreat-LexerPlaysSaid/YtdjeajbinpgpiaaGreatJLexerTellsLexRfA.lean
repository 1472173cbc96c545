/- The reference's lexer: All. -/
import Derived.Test.YtdjeajbinpgpiaaGreatJLexerTellsLexRfN
import Derived.Test.YtdjeajbinpgpiaaGreatJLexerTellsLexRfRaw
import Derived.Test.YtdjeajbinpgpiaaGreatJLexerTellsLexA0
import Derived.LoopN
namespace Go.Proofs.YtdjeajbinpgpiaaGreat
open Go.RowKit

theorem stOk_go (x : List UInt8) (s : Lx) (hs : s.at_ ≤ x.length) (h : StOk s) : StOk (goL x s) := by
  have := stOk_next x s hs h
  unfold goL
  split
  · exact this
  · exact this
theorem RowA.ref {w w' : World} {base p : Nat} {v : Value} {l : List At} {x : ByteArray} {s : Lx} (h : RowA w base v l) (hl : RefAt w p x s) (hb : But (fun k => k = p) w w') : RowA w' base v l :=
  owns_but h hb (fun g hg e => h.apart hl (by decide) (by rw [hg, e]))
theorem RowK.ref {w w' : World} {base p : Nat} {v : Value} {l : List Tq} {x : ByteArray} {s : Lx} (h : RowK w base v l) (hl : RefAt w p x s) (hb : But (fun k => k = p) w w') : RowK w' base v l := by
  refine ⟨owns_but h.1 hb (fun g hg e => ?_), fun m hm => (h.2 m hm).ref hl hb⟩
  rcases h.1.2 with ⟨hv, _⟩ | ⟨g2, cap, cur, hv, _, hg2, _⟩
  · rw [hv] at hg; cases hg
  · rw [hv] at hg
    have hg : some g2 = some g := hg
    cases hg
    subst e
    unfold RefAt Blk at hl
    rw [hl] at hg2
    injection hg2 with hg2
    injection hg2 with _ hg2
    exact absurd hg2 (by decide)
theorem RefAt.row {w w' : World} {base p : Nat} {x : ByteArray} {s : Lx} {v : Value} {l : List Tq} (hl : RefAt w p x s) (h : w.ownsRow base 44 5 v l.length (l.flatMap enc_tk)) (hg : w.grownBy w' v.ownBlock) : RefAt w' p x s := by
  refine Blk.but hl (But.of_grown hg (S := fun k => v.ownBlock = some k) (fun k hk => hk)) fun e => ?_
  rcases h.2 with ⟨hv, _⟩ | ⟨g2, cap, cur, hv, _, hg2, _⟩
  · rw [hv] at e; cases e
  · rw [hv] at e
    have e : some g2 = some p := e
    cases e
    unfold RefAt Blk at hl
    rw [hl] at hg2
    injection hg2 with hg2
    injection hg2 with _ hg2
    exact absurd hg2 (by decide)
set_option maxHeartbeats 8000000 in
set_option maxRecDepth 100000 in
theorem rflall_any (x : ByteArray) (w : World) (hx : x.size ≤ 65534) :
    Calls Tryz.prog 21 #[.string x] w fun e w' => ∃ v out, e = .returned v ∧ RowK w' w.heap.size v out ∧ out.map Tq.t = tokensL (B x) ∧ Below w.heap.size w w' := by
  obtain ⟨i0, hi0, hz0, hz1, hz2⟩ := info_parts info_tk
  have HN := Lib.hid (rfnew_any x w)
  go_enter Tryz.func21, Tryz.ntmps21
  go_wp2_with fail
  refine HN.out.mono ?_
  rintro e w1 ⟨rfl, hlx, b1⟩
  have HX := Lib.hid hlx
  have HB1 := Lib.hid b1
  clear hlx b1
  go_wp2_with fail
  go_loopw [4] (fun v wr => ∃ (s : Lx) (out : List Tq), RefAt wr w.heap.size x s ∧ Hid (s.at_ ≤ x.size ∧ s.st.size ≤ 65534 ∧ StOk s) ∧ RowK wr w.heap.size v out ∧ Hid (tokensL (B x) = out.map Tq.t ++ toksL (B x) s ∧ out.length ≤ s.at_) ∧ Below w.heap.size w wr) (fun _ wr => x.size + 1 - atOf wr w.heap.size)
  case atStart => exact ⟨startL, [], HX.out, ⟨Nat.zero_le _, Nat.zero_le _, stOk_start⟩, RowK.nil _ _, ⟨rfl, Nat.zero_le _⟩, HB1.out⟩
  case round =>
    obtain ⟨s, out, hlx, HS, hr, HT, hb⟩ := hrel
    have hat : atOf wr w.heap.size = s.at_ := hlx.atOf
    rw [hat]
    have HNX := Lib.hid (rfnext_any w.heap.size x s wr hlx (by omega) HS.out.1 HS.out.2.1 HS.out.2.2)
    have hgo := nextL_goes (B x) s (by rw [← size_B]; exact HS.out.1)
    have hstep := toksL_step (B x) s (by rw [← size_B]; exact HS.out.1)
    have hga := goL_at (B x) s
    have HOKN := Lib.hid (stOk_go (B x) s (by rw [← size_B]; exact HS.out.1) HS.out.2.2)
    have hgl : goL (B x) s = if (nextL (B x) s).1.kd = 2 then setL (nextL (B x) s).2 (rawMode (nextL (B x) s).1.nm) else (nextL (B x) s).2 := rfl
    obtain ⟨gs, hgs⟩ : ∃ g, goL (B x) s = g := ⟨_, rfl⟩
    rw [hgs] at hstep hga hgl HOKN
    generalize nextL (B x) s = nt at *
    obtain ⟨t, s2⟩ := nt
    simp only at hgo hstep hga hgl HNX
    rw [← size_B] at hgo
    have HX1 := Lib.hid hlx
    have HR1 := Lib.hid hr
    have HB1w := Lib.hid hb
    have HGO := Lib.hid hgo
    have HST := Lib.hid hstep
    have HGA := Lib.hid hga
    have HGL := Lib.hid hgl
    have hol : out.length ≤ 65536 := by have := HT.out.2; have := HS.out.1; omega
    unfold RefTo at HNX
    clear hlx hr hb hat hgo hstep hga hgl hgs
    go_wp2_with fail
    refine HNX.out.mono ?_
    rintro e w2 ⟨A, c, rfl, hrow, hlex, hbut⟩
    have hr2 := HR1.out.ref HX1.out hbut
    have hb2 := HB1w.out.trans (hbut.below (B := w.heap.size) (fun k hk => by omega) HB1w.out.size)
    have hba := below_tokG w2 (enc_tk ⟨t, A, c⟩).toArray
    have h5 := Blk.new w2 44 (enc_tk ⟨t, A, c⟩).toArray (0, 0)
    obtain ⟨w3, hw3⟩ : ∃ w3, w3 = w2.alloc (.cells #[.int .i64 t.kd, .string t.nm, .slice A t.al.length c, .bool t.sf, .string t.tx] 44) := ⟨_, rfl⟩
    have HW3 := Lib.hid hw3.symm
    have hba : Below w2.heap.size w2 w3 := by rw [hw3]; exact hba
    have h5 : Blk w3 w2.heap.size 44 #[.int .i64 t.kd, .string t.nm, .slice A t.al.length c, .bool t.sf, .string t.tx] (0, 0) := by rw [hw3]; exact h5
    have HR3 := Lib.hid (hr2.keep hba)
    have HQ3 := Lib.hid (hrow.keep hba)
    have HX3 := Lib.hid (hlex.keep hba)
    have HB3 := Lib.hid (hb2.trans (hba.mono hb2.size))
    have H5 := Lib.hid h5
    obtain ⟨q0, q1, q2, q3, q4, _⟩ := cells_tokG h5
    rw [hw3] at q0 q1 q2 q3 q4
    have hb4 := below_tokG w3 (enc_tk ⟨t, A, c⟩).toArray
    have HRA := Lib.hid (HR3.out.keep hb4)
    have HQA := Lib.hid (HQ3.out.keep hb4)
    have HXA := Lib.hid (HX3.out.keep hb4)
    have HBA := Lib.hid (HB3.out.trans (hb4.mono HB3.out.size))
    have H5A := Lib.hid (H5.out.keep hb4)
    have HRD := Lib.hid (rd_one_tk (m := ⟨t, A, c⟩) (Blk.new w3 44 (enc_tk ⟨t, A, c⟩).toArray (0, 0)))
    have hne : ¬ (u4.ownBlock = some w2.heap.size) := fun e => by
      have := (hr2.1.lt _ e).2
      omega
    have HNE := Lib.hid hne
    unfold tkG
    clear hrow hlex hbut hr2 hb2 hba h5 hw3 hb4 hne
    go_upto_region 4 with (fail)
    rw [HW3.out]
    clear q0 q1 q2 q3 q4
    obtain ⟨q0, q1, q2, q3, q4, _⟩ := cells_tokG H5.out
    go_upto_region 5 with (first
      | (at_builtin
         refine wpList_append_any _ rfl (.tmp 10) (.tmp 12) _ rfl w.heap.size 44 i0 _ 5 72 Tryz.underlying49 hi0 hz0 hz1 hz2 rfl (by omega) _ _ _ rfl HRA.out.1 (some ⟨w3.heap.size, 0, none⟩) 1 1 _ rfl HRD.out (by simp only [maxLen]; omega) (by omega) HBA.out.size ?_
         intro v7 w7 hown7 g7 hat7
         have HR7 := Lib.hid (HRA.out.grow (m := ⟨t, A, c⟩) HQA.out hown7 g7)
         have HB7 := Lib.hid (made_grown HBA.out g7 (fun k hk => (HRA.out.1.lt k hk).1))
         have HX7 := Lib.hid (HXA.out.row HRA.out.1 g7)
         have h7 := H5A.out.but (But.of_grown g7 (S := fun k => u4.ownBlock = some k) (fun k hk => hk)) HNE.out
         obtain ⟨p0, p1, _⟩ := cells_tokG h7
         clear hown7 g7 hat7 h7))
    clear q0 q1 q2 q3 q4
    have hmap : (out ++ [(⟨t, A, c⟩ : Tq)]).map Tq.t = out.map Tq.t ++ [t] := by simp
    have HMAP := Lib.hid hmap
    clear hmap
    rcases HGO.out with ⟨h1, _, _⟩ | ⟨h1, h2, h3, h4⟩
    · have hk6 : t.kd = 6 := by rw [h1]; rfl
      have d6 : (t.kd == 6) = true := beq_iff_eq.2 hk6
      have hst := HST.out
      rw [if_pos hk6] at hst
      have HSX := Lib.hid hst
      clear h1 hk6 hst
      go_wp2_with fail
      go_ret
      exact ⟨v7, out ++ [⟨t, A, c⟩], rfl, HR7.out, by rw [HMAP.out, HT.out.1, HSX.out], HB7.out⟩
    · have d6 : (t.kd == 6) = false := beq_eq_false_iff_ne.2 h1
      have hst := HST.out
      rw [if_neg h1] at hst
      have HNEW := Lib.hid (show tokensL (B x) = (out ++ [(⟨t, A, c⟩ : Tq)]).map Tq.t ++ toksL (B x) gs ∧ (out ++ [(⟨t, A, c⟩ : Tq)]).length ≤ gs.at_ from
        ⟨by rw [HMAP.out, HT.out.1, hst, List.append_assoc]; rfl, by rw [List.length_append, HGA.out.1]; have := HT.out.2; simp only [List.length_cons, List.length_nil]; omega⟩)
      have HSN := Lib.hid (show gs.at_ ≤ x.size ∧ gs.st.size ≤ 65534 ∧ StOk gs from ⟨by rw [HGA.out.1]; exact h3, by
        rw [HGA.out.2]
        rcases h4 with e | e
        · rw [e]; exact HS.out.2.1
        · omega, HOKN.out⟩)
      have HLT := Lib.hid (show s.at_ < gs.at_ by rw [HGA.out.1]; exact h2)
      by_cases hk2 : t.kd = 2
      · have d2 : (t.kd == 2) = true := beq_iff_eq.2 hk2
        have hgl := HGL.out
        rw [if_pos hk2] at hgl
        have HRW := Lib.hid (fun W => rfraw_any t.nm W)
        have HSE := Lib.hid (rfset_any w.heap.size x s2 (rawMode t.nm) w7 HX7.out)
        rw [← hgl] at HSE
        generalize rawMode t.nm = rm at *
        clear h1 h2 h3 h4 hst hk2 hgl
        go_wp2_with fail
        refine (HRW.out _).mono ?_
        rintro e w8 ⟨rfl, rfl⟩
        go_wp2_with fail
        refine HSE.out.mono ?_
        rintro e w9 ⟨⟨v9, rfl⟩, hlex, hbut⟩
        have HX9 := Lib.hid hlex
        have HR9 := Lib.hid (HR7.out.ref HX7.out hbut)
        have HB9 := Lib.hid (HB7.out.trans (hbut.below (B := w.heap.size) (fun k hk => by omega) HB7.out.size))
        clear hlex hbut p0 p1
        go_wp2_with fail
        refine ⟨⟨gs, _, HX9.out, HSN.out, HR9.out, HNEW.out, HB9.out⟩, ?_⟩
        rw [HX9.out.atOf]
        have := HLT.out
        have := HSN.out.1
        omega
      · have d2 : (t.kd == 2) = false := beq_eq_false_iff_ne.2 hk2
        have hgl := HGL.out
        rw [if_neg hk2] at hgl
        have HX9 : Hid (RefAt w7 w.heap.size x gs) := by rw [hgl]; exact HX7.out
        clear h1 h2 h3 h4 hst hk2 hgl
        go_wp2_with fail
        refine ⟨⟨gs, _, HX9.out, HSN.out, HR7.out, HNEW.out, HB7.out⟩, ?_⟩
        rw [HX9.out.atOf]
        have := HLT.out
        have := HSN.out.1
        omega
end Go.Proofs.YtdjeajbinpgpiaaGreat

