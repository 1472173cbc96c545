/- Raw, LexRow, LexA, LexK. -/
import Derived.Test.YtdjeajbinpgpiaaGreatJLexerTellsLexN
import Derived.Test.YtdjeajbinpgpiaaGreatJLexerTells4
import Derived.Test.YtdjeajbinpgpiaaGreatJLexerTells10
import Derived.LoopN
/- names.Raw. -/
namespace Go.Proofs.YtdjeajbinpgpiaaGreat
open Go.RowKit

theorem eq_list {s : ByteArray} {l : List UInt8} (h : s = ⟨l.toArray⟩) : (s.toList == l) = true := by
  subst h
  rw [toList_B]
  show (l.toArray.toList == l) = true
  simp
theorem ne_list {s : ByteArray} {l : List UInt8} (h : ¬ s = ⟨l.toArray⟩) : (s.toList == l) = false := by
  rw [toList_B, beq_eq_false_iff_ne]
  exact fun e => h (by rw [← S_B s, e]; rfl)
set_option maxHeartbeats 4000000 in
theorem raw_any (nm : ByteArray) (w : World) :
    Calls Tryz.prog 33 #[.string nm, .bool false] w fun e w' => e = .returned (.int .i64 (rawMode nm)) ∧ w = w' := by
  have hr : Hid (rawMode nm = if nm = ⟨#[116, 101, 120, 116, 97, 114, 101, 97]⟩ ∨ nm = ⟨#[116, 105, 116, 108, 101]⟩ then 2
    else if nm = ⟨#[115, 99, 114, 105, 112, 116]⟩ ∨ nm = ⟨#[115, 116, 121, 108, 101]⟩ ∨ nm = ⟨#[120, 109, 112]⟩ then 3
    else if nm = ⟨#[112, 108, 97, 105, 110, 116, 101, 120, 116]⟩ then 4 else 1) := rfl
  obtain ⟨RM, hRM⟩ : ∃ r, rawMode nm = r := ⟨_, rfl⟩
  rw [hRM] at hr ⊢
  clear hRM
  by_cases h1 : nm = ⟨#[116, 101, 120, 116, 97, 114, 101, 97]⟩
  · have e1 : (nm.toList == [116, 101, 120, 116, 97, 114, 101, 97]) = true := eq_list h1
    have HR := Lib.hid (show RM = 2 by have := hr.out; rwa [if_pos (.inl h1)] at this)
    clear hr h1
    go_enter Tryz.func33, Tryz.ntmps33
    go_wp2_with fail
    go_ret
    exact ⟨by rw [HR.out]; rfl, rfl⟩
  have e1 : (nm.toList == [116, 101, 120, 116, 97, 114, 101, 97]) = false := ne_list h1
  by_cases h2 : nm = ⟨#[116, 105, 116, 108, 101]⟩
  · have e2 : (nm.toList == [116, 105, 116, 108, 101]) = true := eq_list h2
    have HR := Lib.hid (show RM = 2 by have := hr.out; rwa [if_pos (.inr h2)] at this)
    clear hr h1 h2
    go_enter Tryz.func33, Tryz.ntmps33
    go_wp2_with fail
    go_ret
    exact ⟨by rw [HR.out]; rfl, rfl⟩
  have e2 : (nm.toList == [116, 105, 116, 108, 101]) = false := ne_list h2
  have hn2 : ¬ (nm = ⟨#[116, 101, 120, 116, 97, 114, 101, 97]⟩ ∨ nm = ⟨#[116, 105, 116, 108, 101]⟩) := by rintro (e | e); exact h1 e; exact h2 e
  have hr2 := hr.out
  rw [if_neg hn2] at hr2
  have HR2 := Lib.hid hr2
  clear hr hr2 hn2 h1 h2
  by_cases h3 : nm = ⟨#[115, 99, 114, 105, 112, 116]⟩
  · have e3 : (nm.toList == [115, 99, 114, 105, 112, 116]) = true := eq_list h3
    have HR := Lib.hid (show RM = 3 by have := HR2.out; rwa [if_pos (.inl h3)] at this)
    clear h3
    go_enter Tryz.func33, Tryz.ntmps33
    go_wp2_with fail
    go_ret
    exact ⟨by rw [HR.out]; rfl, rfl⟩
  have e3 : (nm.toList == [115, 99, 114, 105, 112, 116]) = false := ne_list h3
  by_cases h4 : nm = ⟨#[115, 116, 121, 108, 101]⟩
  · have e4 : (nm.toList == [115, 116, 121, 108, 101]) = true := eq_list h4
    have HR := Lib.hid (show RM = 3 by have := HR2.out; rwa [if_pos (.inr (.inl h4))] at this)
    clear h3 h4
    go_enter Tryz.func33, Tryz.ntmps33
    go_wp2_with fail
    go_ret
    exact ⟨by rw [HR.out]; rfl, rfl⟩
  have e4 : (nm.toList == [115, 116, 121, 108, 101]) = false := ne_list h4
  by_cases h5 : nm = ⟨#[120, 109, 112]⟩
  · have e5 : (nm.toList == [120, 109, 112]) = true := eq_list h5
    have HR := Lib.hid (show RM = 3 by have := HR2.out; rwa [if_pos (.inr (.inr h5))] at this)
    clear h3 h4 h5
    go_enter Tryz.func33, Tryz.ntmps33
    go_wp2_with fail
    go_ret
    exact ⟨by rw [HR.out]; rfl, rfl⟩
  have e5 : (nm.toList == [120, 109, 112]) = false := ne_list h5
  have hn5 : ¬ (nm = ⟨#[115, 99, 114, 105, 112, 116]⟩ ∨ nm = ⟨#[115, 116, 121, 108, 101]⟩ ∨ nm = ⟨#[120, 109, 112]⟩) := by rintro (e | e | e); exact h3 e; exact h4 e; exact h5 e
  have hr3 := HR2.out
  rw [if_neg hn5] at hr3
  have HR3 := Lib.hid hr3
  clear HR2 hr3 hn5 h3 h4 h5
  have hns : (nm.toList == [110, 111, 115, 99, 114, 105, 112, 116]) = true ∨ (nm.toList == [110, 111, 115, 99, 114, 105, 112, 116]) = false := by
    cases (nm.toList == [110, 111, 115, 99, 114, 105, 112, 116]) <;> simp
  by_cases h6 : nm = ⟨#[112, 108, 97, 105, 110, 116, 101, 120, 116]⟩
  · have e6 : (nm.toList == [112, 108, 97, 105, 110, 116, 101, 120, 116]) = true := eq_list h6
    have e7 : (nm.toList == [110, 111, 115, 99, 114, 105, 112, 116]) = false := by rw [h6]; decide +kernel
    have HR := Lib.hid (show RM = 4 by have := HR3.out; rwa [if_pos h6] at this)
    clear h6 hns
    go_enter Tryz.func33, Tryz.ntmps33
    go_wp2_with fail
    go_ret
    exact ⟨by rw [HR.out]; rfl, rfl⟩
  · have e6 : (nm.toList == [112, 108, 97, 105, 110, 116, 101, 120, 116]) = false := ne_list h6
    have HR := Lib.hid (show RM = 1 by have := HR3.out; rwa [if_neg h6] at this)
    clear h6
    rcases hns with e7 | e7
    all_goals
      go_enter Tryz.func33, Tryz.ntmps33
      go_wp2_with fail
      go_ret
      exact ⟨by rw [HR.out]; rfl, rfl⟩

end Go.Proofs.YtdjeajbinpgpiaaGreat

/- Rows of tokens beside the lexer. -/
namespace Go.Proofs.YtdjeajbinpgpiaaGreat
open Go.RowKit

/-! ### rows beside the lexer -/
theorem RowA.lex {w w' : World} {base p : Nat} {v : Value} {l : List At} {x : ByteArray} {s : Lx} (h : RowA w base v l) (hl : LexAt w p x s) (hb : But (fun k => k = p) w w') : RowA w' base v l :=
  owns_but h hb (fun g hg e => h.apart hl (by decide) (by rw [hg, e]))
theorem RowK.lex {w w' : World} {base p : Nat} {v : Value} {l : List Tq} {x : ByteArray} {s : Lx} (h : RowK w base v l) (hl : LexAt w p x s) (hb : But (fun k => k = p) w w') : RowK w' base v l := by
  refine ⟨owns_but h.1 hb (fun g hg e => ?_), fun m hm => (h.2 m hm).lex hl hb⟩
  rcases h.1.2 with ⟨hv, _⟩ | ⟨g2, cap, cur, hv, _, hg2, _⟩
  · rw [hv] at hg; cases hg
  · rw [hv] at hg
    have hg : some g2 = some g := hg
    cases hg
    subst e
    unfold LexAt Blk at hl
    rw [hl] at hg2
    injection hg2 with hg2
    injection hg2 with _ hg2
    exact absurd hg2 (by decide)
theorem LexAt.row {w w' : World} {base p : Nat} {x : ByteArray} {s : Lx} {v : Value} {l : List Tq} (hl : LexAt w p x s) (h : w.ownsRow base 44 5 v l.length (l.flatMap enc_tk)) (hg : w.grownBy w' v.ownBlock) : LexAt w' p x s := by
  refine Blk.but hl (But.of_grown hg (S := fun k => v.ownBlock = some k) (fun k hk => hk)) fun e => ?_
  rcases h.2 with ⟨hv, _⟩ | ⟨g2, cap, cur, hv, _, hg2, _⟩
  · rw [hv] at e; cases e
  · rw [hv] at e
    have e : some g2 = some p := e
    cases e
    unfold LexAt Blk at hl
    rw [hl] at hg2
    injection hg2 with hg2
    injection hg2 with _ hg2
    exact absurd hg2 (by decide)

end Go.Proofs.YtdjeajbinpgpiaaGreat

/- lexer.All. -/
namespace Go.Proofs.YtdjeajbinpgpiaaGreat
open Go.RowKit

set_option maxHeartbeats 8000000 in
set_option maxRecDepth 100000 in
theorem lall_any (x : ByteArray) (w : World) (hx : x.size ≤ 65536) (hL : Lax w) :
    Calls Tryz.prog 20 #[.string x] w fun e w' => ∃ v out, e = .returned v ∧ RowK w' w.heap.size v out ∧ out.map Tq.t = tokensL (B x) ∧ Below w.heap.size w w' := by
  obtain ⟨i0, hi0, hz0, hz1, hz2⟩ := info_parts info_tk
  have HL := Lib.hid hL
  have HN := Lib.hid (lnew_any x w)
  clear hL
  go_enter Tryz.func20, Tryz.ntmps20
  go_wp2_with fail
  refine HN.out.mono ?_
  rintro e w1 ⟨rfl, hlx, b1⟩
  have HX := Lib.hid hlx
  have HB1 := Lib.hid b1
  clear hlx b1
  go_wp2_with fail
  go_loopw [4] (fun v wr => ∃ (s : Lx) (out : List Tq), LexAt wr w.heap.size x s ∧ Hid (s.at_ ≤ x.size ∧ s.st.size ≤ 65536) ∧ RowK wr w.heap.size v out ∧ Hid (tokensL (B x) = out.map Tq.t ++ toksL (B x) s ∧ out.length ≤ s.at_) ∧ Below w.heap.size w wr) (fun _ wr => x.size + 1 - atOf wr w.heap.size)
  case atStart => exact ⟨startL, [], HX.out, ⟨Nat.zero_le _, Nat.zero_le _⟩, RowK.nil _ _, ⟨rfl, Nat.zero_le _⟩, HB1.out⟩
  case round =>
    obtain ⟨s, out, hlx, HS, hr, HT, hb⟩ := hrel
    have hat : atOf wr w.heap.size = s.at_ := hlx.atOf
    rw [hat]
    have hlax := HL.out.below hb
    have HNX := Lib.hid (lnext_any w.heap.size x s wr hlx ⟨hx, HS.out.1, HS.out.2, hlax⟩)
    have hgo := nextL_goes (B x) s (by rw [← size_B]; exact HS.out.1)
    have hstep := toksL_step (B x) s (by rw [← size_B]; exact HS.out.1)
    have hga := goL_at (B x) s
    have hgl : goL (B x) s = if (nextL (B x) s).1.kd = 2 then setL (nextL (B x) s).2 (rawMode (nextL (B x) s).1.nm) else (nextL (B x) s).2 := rfl
    obtain ⟨gs, hgs⟩ : ∃ g, goL (B x) s = g := ⟨_, rfl⟩
    rw [hgs] at hstep hga hgl
    generalize nextL (B x) s = nt at *
    obtain ⟨t, s2⟩ := nt
    simp only at hgo hstep hga hgl HNX
    rw [← size_B] at hgo
    have HX1 := Lib.hid hlx
    have HR1 := Lib.hid hr
    have HB1w := Lib.hid hb
    have HGO := Lib.hid hgo
    have HST := Lib.hid hstep
    have HGA := Lib.hid hga
    have HGL := Lib.hid hgl
    have hol : out.length ≤ 65536 := by have := HT.out.2; have := HS.out.1; omega
    unfold TokTo at HNX
    clear hlx hr hb hat hgo hstep hga hgl hgs hlax
    go_wp2_with fail
    refine HNX.out.mono ?_
    rintro e w2 ⟨A, c, rfl, hrow, hlex, hbut⟩
    have hr2 := HR1.out.lex HX1.out hbut
    have hb2 := HB1w.out.trans (hbut.below (B := w.heap.size) (fun k hk => by omega) HB1w.out.size)
    have hba := below_tokG w2 (enc_tk ⟨t, A, c⟩).toArray
    have h5 := Blk.new w2 44 (enc_tk ⟨t, A, c⟩).toArray (0, 0)
    obtain ⟨w3, hw3⟩ : ∃ w3, w3 = w2.alloc (.cells #[.int .i64 t.kd, .string t.nm, .slice A t.al.length c, .bool t.sf, .string t.tx] 44) := ⟨_, rfl⟩
    have HW3 := Lib.hid hw3.symm
    have hba : Below w2.heap.size w2 w3 := by rw [hw3]; exact hba
    have h5 : Blk w3 w2.heap.size 44 #[.int .i64 t.kd, .string t.nm, .slice A t.al.length c, .bool t.sf, .string t.tx] (0, 0) := by rw [hw3]; exact h5
    have HR3 := Lib.hid (hr2.keep hba)
    have HQ3 := Lib.hid (hrow.keep hba)
    have HX3 := Lib.hid (hlex.keep hba)
    have HB3 := Lib.hid (hb2.trans (hba.mono hb2.size))
    have H5 := Lib.hid h5
    obtain ⟨q0, q1, q2, q3, q4, _⟩ := cells_tokG h5
    rw [hw3] at q0 q1 q2 q3 q4
    have hb4 := below_tokG w3 (enc_tk ⟨t, A, c⟩).toArray
    have HRA := Lib.hid (HR3.out.keep hb4)
    have HQA := Lib.hid (HQ3.out.keep hb4)
    have HXA := Lib.hid (HX3.out.keep hb4)
    have HBA := Lib.hid (HB3.out.trans (hb4.mono HB3.out.size))
    have H5A := Lib.hid (H5.out.keep hb4)
    have HRD := Lib.hid (rd_one_tk (m := ⟨t, A, c⟩) (Blk.new w3 44 (enc_tk ⟨t, A, c⟩).toArray (0, 0)))
    have hne : ¬ (u4.ownBlock = some w2.heap.size) := fun e => by
      have := (hr2.1.lt _ e).2
      omega
    have HNE := Lib.hid hne
    unfold tkG
    clear hrow hlex hbut hr2 hb2 hba h5 hw3 hb4 hne
    go_upto_region 4 with (fail)
    rw [HW3.out]
    clear q0 q1 q2 q3 q4
    obtain ⟨q0, q1, q2, q3, q4, _⟩ := cells_tokG H5.out
    go_upto_region 5 with (first
      | (at_builtin
         refine wpList_append_any _ rfl (.tmp 10) (.tmp 12) _ rfl w.heap.size 44 i0 _ 5 72 Tryz.underlying49 hi0 hz0 hz1 hz2 rfl (by omega) _ _ _ rfl HRA.out.1 (some ⟨w3.heap.size, 0, none⟩) 1 1 _ rfl HRD.out (by simp only [maxLen]; omega) (by omega) HBA.out.size ?_
         intro v7 w7 hown7 g7 hat7
         have HR7 := Lib.hid (HRA.out.grow (m := ⟨t, A, c⟩) HQA.out hown7 g7)
         have HB7 := Lib.hid (made_grown HBA.out g7 (fun k hk => (HRA.out.1.lt k hk).1))
         have HX7 := Lib.hid (HXA.out.row HRA.out.1 g7)
         have h7 := H5A.out.but (But.of_grown g7 (S := fun k => u4.ownBlock = some k) (fun k hk => hk)) HNE.out
         obtain ⟨p0, p1, _⟩ := cells_tokG h7
         clear hown7 g7 hat7 h7))
    clear q0 q1 q2 q3 q4
    have hmap : (out ++ [(⟨t, A, c⟩ : Tq)]).map Tq.t = out.map Tq.t ++ [t] := by simp
    have HMAP := Lib.hid hmap
    clear hmap
    rcases HGO.out with ⟨h1, _, _⟩ | ⟨h1, h2, h3, h4⟩
    · have hk6 : t.kd = 6 := by rw [h1]; rfl
      have d6 : (t.kd == 6) = true := beq_iff_eq.2 hk6
      have hst := HST.out
      rw [if_pos hk6] at hst
      have HSX := Lib.hid hst
      clear h1 hk6 hst
      go_wp2_with fail
      go_ret
      exact ⟨v7, out ++ [⟨t, A, c⟩], rfl, HR7.out, by rw [HMAP.out, HT.out.1, HSX.out], HB7.out⟩
    · have d6 : (t.kd == 6) = false := beq_eq_false_iff_ne.2 h1
      have hst := HST.out
      rw [if_neg h1] at hst
      have HNEW := Lib.hid (show tokensL (B x) = (out ++ [(⟨t, A, c⟩ : Tq)]).map Tq.t ++ toksL (B x) gs ∧ (out ++ [(⟨t, A, c⟩ : Tq)]).length ≤ gs.at_ from
        ⟨by rw [HMAP.out, HT.out.1, hst, List.append_assoc]; rfl, by rw [List.length_append, HGA.out.1]; have := HT.out.2; simp only [List.length_cons, List.length_nil]; omega⟩)
      have HSN := Lib.hid (show gs.at_ ≤ x.size ∧ gs.st.size ≤ 65536 from ⟨by rw [HGA.out.1]; exact h3, by
        rw [HGA.out.2]
        rcases h4 with e | e
        · rw [e]; exact HS.out.2
        · omega⟩)
      have HLT := Lib.hid (show s.at_ < gs.at_ by rw [HGA.out.1]; exact h2)
      by_cases hk2 : t.kd = 2
      · have d2 : (t.kd == 2) = true := beq_iff_eq.2 hk2
        have hgl := HGL.out
        rw [if_pos hk2] at hgl
        have HRW := Lib.hid (fun W => raw_any t.nm W)
        have HSE := Lib.hid (lset_any w.heap.size x s2 (rawMode t.nm) w7 HX7.out)
        rw [← hgl] at HSE
        generalize rawMode t.nm = rm at *
        clear h1 h2 h3 h4 hst hk2 hgl
        go_wp2_with fail
        refine (HRW.out _).mono ?_
        rintro e w8 ⟨rfl, rfl⟩
        go_wp2_with fail
        refine HSE.out.mono ?_
        rintro e w9 ⟨⟨v9, rfl⟩, hlex, hbut⟩
        have HX9 := Lib.hid hlex
        have HR9 := Lib.hid (HR7.out.lex HX7.out hbut)
        have HB9 := Lib.hid (HB7.out.trans (hbut.below (B := w.heap.size) (fun k hk => by omega) HB7.out.size))
        clear hlex hbut p0 p1
        go_wp2_with fail
        refine ⟨⟨gs, _, HX9.out, HSN.out, HR9.out, HNEW.out, HB9.out⟩, ?_⟩
        rw [HX9.out.atOf]
        have := HLT.out
        have := HSN.out.1
        omega
      · have d2 : (t.kd == 2) = false := beq_eq_false_iff_ne.2 hk2
        have hgl := HGL.out
        rw [if_neg hk2] at hgl
        have HX9 : Hid (LexAt w7 w.heap.size x gs) := by rw [hgl]; exact HX7.out
        clear h1 h2 h3 h4 hst hk2 hgl
        go_wp2_with fail
        refine ⟨⟨gs, _, HX9.out, HSN.out, HR7.out, HNEW.out, HB7.out⟩, ?_⟩
        rw [HX9.out.atOf]
        have := HLT.out
        have := HSN.out.1
        omega
end Go.Proofs.YtdjeajbinpgpiaaGreat

/- The lexer's tokens, read; arbourlaw13.known. -/
namespace Go.Proofs.YtdjeajbinpgpiaaGreat
open Go.RowKit

theorem RowK.at {w : World} {base : Nat} {v : Value} {l : List Tq} (h : RowK w base v l) (hl : 0 < l.length) : ∃ g c, v = .slice (some ⟨g, 0, none⟩) l.length c ∧
    ∀ j m, l[j]? = some m → w.cell? ⟨g, j * 5, none⟩ = some (.int .i64 m.t.kd) ∧ w.cell? ⟨g, j * 5 + 1, none⟩ = some (.string m.t.nm) ∧ w.cell? ⟨g, j * 5 + 4, none⟩ = some (.string m.t.tx) := by
  obtain ⟨g, cap, rest, hv, _, hb, _, _, _⟩ := own_parts h.1 hl
  refine ⟨g, cap, hv, fun j m hj => ?_⟩
  have hlen := row_len encOk_tk l
  have hjl := (List.getElem?_eq_some_iff.1 hj).1
  have key : ∀ (i : Nat) (u : Value), i < 5 → (enc_tk m)[i]? = some u → w.cell? ⟨g, j * 5 + i, none⟩ = some u := fun i u hi hu => by
    rw [hb.cell, List.getElem?_toArray, List.getElem?_append_left (by rw [hlen]; omega)]
    exact row_at encOk_tk l j i m u hj hu
  exact ⟨key 0 _ (by decide) rfl, key 1 _ (by decide) rfl, key 4 _ (by decide) rfl⟩
theorem four_of {out : List Tq} {a b c d : Tk} (h : out.map Tq.t = [a, b, c, d]) : ∃ m0 m1 m2 m3, out = [m0, m1, m2, m3] ∧ m0.t = a ∧ m1.t = b ∧ m2.t = c ∧ m3.t = d := by
  match out, h with
  | [m0, m1, m2, m3], h =>
    simp only [List.map_cons, List.map_nil, List.cons.injEq, and_true] at h
    exact ⟨m0, m1, m2, m3, rfl, h.1, h.2.1, h.2.2.1, h.2.2.2⟩
theorem three_of {out : List Tq} {a b c : Tk} (h : out.map Tq.t = [a, b, c]) : ∃ m0 m1 m2, out = [m0, m1, m2] ∧ m0.t = a ∧ m1.t = b ∧ m2.t = c := by
  match out, h with
  | [m0, m1, m2], h =>
    simp only [List.map_cons, List.map_nil, List.cons.injEq, and_true] at h
    exact ⟨m0, m1, m2, rfl, h.1, h.2.1, h.2.2⟩
theorem two_of {out : List Tq} {a b : Tk} (h : out.map Tq.t = [a, b]) : ∃ m0 m1, out = [m0, m1] ∧ m0.t = a ∧ m1.t = b := by
  match out, h with
  | [m0, m1], h =>
    simp only [List.map_cons, List.map_nil, List.cons.injEq, and_true] at h
    exact ⟨m0, m1, rfl, h.1, h.2⟩
theorem one_of {out : List Tq} {a : Tk} (h : out.map Tq.t = [a]) : ∃ m0, out = [m0] ∧ m0.t = a := by
  match out, h with
  | [m0], h =>
    simp only [List.map_cons, List.map_nil, List.cons.injEq, and_true] at h
    exact ⟨m0, rfl, h⟩
def knownX : ByteArray := ⟨#[60, 116, 105, 116, 108, 101, 62, 97, 60, 98, 62, 38, 108, 116, 59, 60, 47, 116, 105, 116, 108, 101, 62]⟩
def seeT (t : Tk) : Int × List UInt8 × List UInt8 := (t.kd, B t.nm, B t.tx)
theorem known_toks : (tokensL (B knownX)).map seeT = [(2, [116, 105, 116, 108, 101], []), (4, [], [97, 60, 98, 62, 60]), (3, [116, 105, 116, 108, 101], []), (6, [], [])] := by decide +kernel
theorem see_four {l : List Tk} {a b c d : Int × List UInt8 × List UInt8} (h : l.map seeT = [a, b, c, d]) : ∃ t0 t1 t2 t3, l = [t0, t1, t2, t3] ∧ seeT t0 = a ∧ seeT t1 = b ∧ seeT t2 = c ∧ seeT t3 = d := by
  match l, h with
  | [m0, m1, m2, m3], h =>
    simp only [List.map_cons, List.map_nil, List.cons.injEq, and_true] at h
    exact ⟨m0, m1, m2, m3, rfl, h.1, h.2.1, h.2.2.1, h.2.2.2⟩
theorem seen {t : Tk} {k : Int} {n x : List UInt8} (h : seeT t = (k, n, x)) : t.kd = k ∧ t.nm.toList = n ∧ t.tx.toList = x := by
  unfold seeT at h
  simp only [Prod.mk.injEq] at h
  rw [toList_B, toList_B]
  exact h
set_option maxHeartbeats 4000000 in
theorem lex_known (w : World) (hL : Lax w) :
    Calls Tryz.prog 7 #[] w fun e w' => e = .returned (.bool true) ∧ Below w.heap.size w w' := by
  have HA := Lib.hid (lall_any knownX w (by decide) hL)
  obtain ⟨t0, t1, t2, t3, hl, s0, s1, s2, s3⟩ := see_four known_toks
  rw [hl] at HA
  obtain ⟨_, n0, _⟩ := seen s0
  obtain ⟨_, _, x1⟩ := seen s1
  obtain ⟨k2, _, _⟩ := seen s2
  obtain ⟨k3, _, _⟩ := seen s3
  have e0 : (t0.nm.toList == [116, 105, 116, 108, 101]) = true := by rw [n0]; decide
  have e1 : (t1.tx.toList == [97, 60, 98, 62, 60]) = true := by rw [x1]; decide
  have HE := Lib.hid (And.intro k2 k3)
  unfold knownX at HA
  clear hL hl s0 s1 s2 s3 n0 x1 k2 k3
  go_enter Tryz.func7, Tryz.ntmps7
  go_wp2_with fail
  refine HA.out.mono ?_
  rintro e w1 ⟨v, out, rfl, hr, hm, b1⟩
  obtain ⟨m0, m1, m2, m3, rfl, rfl, rfl, rfl, rfl⟩ := four_of hm
  obtain ⟨g, c, rfl, hc⟩ := hr.at (by simp)
  have q0 : w1.cell? ⟨g, 1, none⟩ = some (.string m0.t.nm) := (hc 0 m0 rfl).2.1
  have q1 : w1.cell? ⟨g, 9, none⟩ = some (.string m1.t.tx) := (hc 1 m1 rfl).2.2
  have q2 : w1.cell? ⟨g, 10, none⟩ = some (.int .i64 3) := by have := (hc 2 m2 rfl).1; rw [HE.out.1] at this; exact this
  have q3 : w1.cell? ⟨g, 15, none⟩ = some (.int .i64 6) := by have := (hc 3 m3 rfl).1; rw [HE.out.2] at this; exact this
  have HB := Lib.hid b1
  clear hr hm hc b1
  go_wp2_with fail
  go_ret
  exact ⟨rfl, HB.out⟩
end Go.Proofs.YtdjeajbinpgpiaaGreat
