/- The lexer: a token as usual. -/
import Derived.Test.YtdjeajbinpgpiaaGreatJLexerTells18
namespace Go.Proofs.YtdjeajbinpgpiaaGreat
open Go.RowKit Go.BigFrame

/-- What the lexer's functions hand over: a token; the lexer stands elsewhere, all else is as it was. -/
def TokTo (w : World) (p : Nat) (x : ByteArray) (t : Tk) (s : Lx) (e : Ending) (w' : World) : Prop := ∃ A c, e = .returned (tkG t A c) ∧ RowA w' 0 (.slice A t.al.length c) t.al ∧ LexAt w' p x s ∧ But (fun k => k = p) w w'
structure DataAt (w0 w : World) (p : Nat) (x : ByteArray) (s : Lx) (k : Nat) : Prop where
  lex : LexAt w p x { s with at_ := k }
  but : But (fun j => j = p) w0 w
  base : p < w0.heap.size
  size : w0.heap.size + 1 ≤ w.heap.size
  res : Blk w w0.heap.size 44 #[.int .i64 0, .string ⟨#[]⟩, .slice none 0 0, .bool false, .string ⟨#[]⟩] (0, 0)
theorem DataAt.butb {w0 w w2 : World} {p b : Nat} {x : ByteArray} {s : Lx} {k : Nat} (h : DataAt w0 w p x s k) (hb : But (fun j => j = b) w w2) (hlt : w0.heap.size + 1 ≤ b) : DataAt w0 w2 p x s k :=
  ⟨Blk.but h.lex hb (by have := h.base; omega), h.but.trans hb (fun k hk => .inr (by omega)), h.base, Nat.le_trans h.size hb.size, h.res.but hb (by omega)⟩
theorem DataAt.keep {w0 w w2 : World} {p : Nat} {x : ByteArray} {s : Lx} {k : Nat} (h : DataAt w0 w p x s k) (hb : Below w.heap.size w w2) : DataAt w0 w2 p x s k := h.butb (b := w.heap.size) (But.of_below hb) h.size
theorem DataAt.goto {w0 w : World} {p : Nat} {x : ByteArray} {s : Lx} {k : Nat} (h : DataAt w0 w p x s k) (j : Nat) : DataAt w0 (w.setCell ⟨p, 1, none⟩ (.int .i64 (j : Int))) p x s j :=
  ⟨h.lex.goto j, h.but.setCell _ _ (.inl rfl), h.base, by rw [World.size_setCell]; exact h.size, h.res.far (by have := h.base; show w0.heap.size ≠ p; omega) _⟩
theorem after_data {w0 w : World} {p : Nat} {x : ByteArray} {s : Lx} {k : Nat} (h : DataAt w0 w p x s k) (n : After w) : n.W.cell? ⟨p, 0, none⟩ = some (.string x) ∧ n.W.cell? ⟨p, 1, none⟩ = some (.int .i64 (k : Int)) ∧ n.W.cell? ⟨p, 3, none⟩ = some (.bool s.fo) :=
  ⟨(h.lex.keep n.below).cells.1, (h.lex.keep n.below).cells.2.1, (h.lex.keep n.below).cells.2.2.2.1⟩
theorem tg_kind (x : List UInt8) (k : Nat) (h : (readT x k).2.2 = true) : (readT x k).1.kind = 2 ∨ (readT x k).1.kind = 3 := by
  obtain ⟨_, _, al, sf, n, _, h4⟩ := tag_at h
  rw [h4]
  simp only
  split
  · exact .inr rfl
  · exact .inl rfl

theorem tm_kind (x : List UInt8) (k : Nat) (fo : Bool) : (readM x k fo).1.kind ≠ 2 := by
  have hc : ∀ a, (commentM x a).1.kind ≠ 2 := fun a => by
    unfold commentM
    split <;> (try split) <;> (try split) <;> (try split) <;> (intro e; simp at e)
  have hd : ∀ a, (dataM x a).1.kind ≠ 2 := fun a => by
    unfold dataM
    simp only
    split
    · intro e; simp [noTm] at e
    · intro e; simp at e
  unfold readM
  split
  · intro e; simp [noTm] at e
  split
  · exact hc _
  split
  · intro e; simp [doctypeM] at e
  split
  · exact hd _
  split
  · intro e; simp [rubbishM] at e
  split
  · intro e; simp [rubbishM] at e
  split
  · intro e; simp [noTm] at e
  split
  · intro e; simp [rubbishM] at e
  · intro e; simp [noTm] at e
theorem set5_butS {S : Nat → Prop} {w w1 : World} {b : Nat} (h : But S w w1) (hb : S b) (u0 u1 u2 u3 u4 : Value) : But S w (((((w1.setCell ⟨b, 0, none⟩ u0).setCell ⟨b, 1, none⟩ u1).setCell ⟨b, 2, none⟩ u2).setCell ⟨b, 3, none⟩ u3).setCell ⟨b, 4, none⟩ u4) :=
  ((((h.setCell _ _ (.inl hb)).setCell _ _ (.inl hb)).setCell _ _ (.inl hb)).setCell _ _ (.inl hb)).setCell _ _ (.inl hb)
set_option maxHeartbeats 8000000 in
set_option maxRecDepth 100000 in
theorem ldata_any (p : Nat) (x : ByteArray) (s : Lx) (w : World) (h : LexAt w p x s) (ho : LexOk w x s) :
    Calls Tryz.prog 27 #[.pointer (some ⟨p, 0, none⟩)] w (TokTo w p x (dataX (B x) s.fo s.at_).1 (afterL s (dataX (B x) s.fo s.at_))) := by
  have hplt : p < w.heap.size := Blk.lt h
  have hxs := ho.size
  have hal := ho.at_
  have HO := Lib.hid ho
  have HLX := Lib.hid h
  obtain ⟨a, mo, fo, st⟩ := s
  simp only at *
  have hb0 := below_tokG w #[.int .i64 0, .string ⟨#[]⟩, .slice none 0 0, .bool false, .string ⟨#[]⟩]
  have hz := Blk.new w 44 #[.int .i64 0, .string ⟨#[]⟩, .slice none 0 0, .bool false, .string ⟨#[]⟩] (0, 0)
  obtain ⟨w1, hw1⟩ : ∃ w1, w1 = w.alloc (.cells #[.int .i64 0, .string ⟨#[]⟩, .slice none 0 0, .bool false, .string ⟨#[]⟩] 44) := ⟨_, rfl⟩
  have HW1 := Lib.hid hw1.symm
  have hsz1 : w1.heap.size = w.heap.size + 1 := by rw [hw1]; simp
  rw [← hw1] at hb0 hz
  have hDA : DataAt w w1 p x ⟨a, mo, fo, st⟩ a := ⟨h.keep hb0, But.of_below hb0, hplt, by omega, hz⟩
  have HDA := Lib.hid hDA
  have HR0 := Lib.hid (rfl : dataX (B x) fo a = dataX (B x) fo a)
  obtain ⟨DX, hDX⟩ : ∃ d, dataX (B x) fo a = d := ⟨_, rfl⟩
  rw [hDX]
  have HDX := Lib.hid hDX
  clear h ho hb0 hz hDA hw1 hDX HR0
  go_enter Tryz.func27, Tryz.ntmps27
  go_upto_block 0 with (fail)
  rw [HW1.out]
  go_cut [] (fun wx => ∃ k, Hid (DataAt w wx p x ⟨a, mo, fo, st⟩ k) ∧ Hid (DX = (eofT, x.size)))
  case first =>
    go_wp2_with fail
    go_loopw [] (fun wr => ∃ k : Nat, DataAt w wr p x ⟨a, mo, fo, st⟩ k ∧ Hid (k ≤ x.size ∧ dataX (B x) fo k = DX)) (fun wr => x.size - atOf wr p)
    case atStart => exact ⟨a, HDA.out, ⟨hal, HDX.out⟩⟩
    case round =>
      obtain ⟨k, hda, HK⟩ := hrel
      have HD := Lib.hid hda
      have hkx := HK.out.1
      have hat : atOf wr p = k := hda.lex.atOf
      rw [hat]
      have cc0 : ∀ n : After wr, n.W.cell? ⟨p, 0, none⟩ = some (.string x) := fun n => (after_data hda n).1
      have cc1 : ∀ n : After wr, n.W.cell? ⟨p, 1, none⟩ = some (.int .i64 (k : Int)) := fun n => (after_data hda n).2.1
      have hstep := dataX_step (B x) fo k (by rw [← size_B]; exact hkx)
      rw [HK.out.2, ← size_B] at hstep
      have HST := Lib.hid hstep
      clear hda hat hstep
      by_cases hlt : k < x.size
      · have d0 : decide ((k : Int) < (x.size : Int)) = true := decide_eq_true (by omega)
        go_wp2_with fail
        refine wp_region_after (by kernel_rfl) (by kernel_rfl) ?_
        repeat (any_goals (go_big_quiet_step (fail)))
        refine wpQuiet_nil ?_
        rintro w' ⟨n1, rfl⟩
        have HD1 := Lib.hid (HD.out.keep n1.below)
        clear cc0 cc1
        generalize n1.W = w3 at *
        have hlax : Lax w3 := HO.out.lax.lex HLX.out HD1.out.but
        have HT := Lib.hid (fun W (hW : Below w3.heap.size w3 W) => tread_any x W hxs (k : Int) (hlax.below hW))
        have hsome := readT_some (x := B x) (k := k)
        have hkind := tg_kind (B x) k
        have hst := HST.out
        rw [if_neg (by omega)] at hst
        generalize readT (B x) k = rt at *
        obtain ⟨⟨tk, tn, ta, tsf⟩, tto, tok⟩ := rt
        simp only at hsome hkind hst
        unfold ReadOut tkV at HT
        simp only at HT
        have HSM := Lib.hid hsome
        have HKD := Lib.hid hkind
        have HST := Lib.hid hst
        have KS := Lib.hid (fun W (hW : Below w3.heap.size w3 W) => (show W.cell? ⟨p, 0, none⟩ = some (.string x) ∧ W.cell? ⟨p, 1, none⟩ = some (.int .i64 (k : Int)) from ⟨(HD1.out.keep hW).lex.cells.1, (HD1.out.keep hW).lex.cells.2.1⟩))
        have HDB := Lib.hid (made_drew w3)
        have HDA := Lib.hid (tok_alloc_below w3 #[.int .i64 0, .string ⟨#[]⟩, .slice none 0 0, .bool false, .string ⟨#[]⟩])
        have HZA := Lib.hid (show Blk (w3.alloc (.cells #[.int .i64 0, .string ⟨#[]⟩, .slice none 0 0, .bool false, .string ⟨#[]⟩] 44)).drew w3.heap.size 44 #[.int .i64 0, .string ⟨#[]⟩, .slice none 0 0, .bool false, .string ⟨#[]⟩] (0, 0) from Blk.new w3 _ _ _)
        have HTB := Lib.hid (HT.out _ HDB.out)
        have HTA := Lib.hid (HT.out _ HDA.out)
        clear hsome hkind hst hlax HT
        go_upto_region 2 with (fail)
        go_cut [3, 4, 5] (fun s3 s4 s5 wx => ∃ b A c, s3 = .pointer (some ⟨b, 0, none⟩) ∧ s4 = .int .i64 tto ∧ s5 = .bool tok ∧ Hid (Blk wx b 44 #[.int .i64 tk, .string (S tn), .slice A ta.length c, .bool tsf, .string ⟨#[]⟩] (0, 0)) ∧ Hid (RowA wx 0 (.slice A ta.length c) ta) ∧ Hid (Below w3.heap.size w3 wx) ∧ Hid (w3.heap.size ≤ b))
        case first =>
          go_region_held3 (fun W => W.cell? ⟨p, 0, none⟩ = some (.string x) ∧ W.cell? ⟨p, 1, none⟩ = some (.int .i64 (k : Int)))
            (first
              | exact KS.out _ HBW.out
              | exact KS.out _ HDB.out
              | exact KS.out _ HDA.out
              | exact KS.out _ (made_alloc HBW.out _)
              | exact KS.out _ (set5_belowG HBW.out (Nat.le_refl _) _ _ _ _ _))
            ((go_at_call 41
              first
                | (with_reducible refine HTB.out.mono ?_
                   rintro e w5 ⟨A, c, rfl, _, ⟨_, hrw⟩, b5⟩
                   have HRW := Lib.hid hrw
                   have HBW := Lib.hid (below_then HDB.out HDB.out.size b5)
                   clear b5 hrw)
                | (with_reducible refine HTA.out.mono ?_
                   rintro e w5 ⟨A, c, rfl, _, ⟨_, hrw⟩, b5⟩
                   have HRW := Lib.hid hrw
                   have HBW := Lib.hid (below_then HDA.out HDA.out.size b5)
                   have HZ5 := Lib.hid (HZA.out.keep b5)
                   obtain ⟨z0, z1, z2, z3, z4, f0, f1, f2, f3, f4⟩ := cells_tokG (HZA.out.keep b5)
                   clear b5 hrw)))
          all_goals
            go_wp2_with fail
            go_meet
            first
              | exact ⟨w3.heap.size, A, c, rfl, rfl, rfl, (set5_tokG HZ5.out HRW.out _ _ _ _ _).1, (set5_tokG HZ5.out HRW.out _ _ _ _ _).2, set5_belowG HBW.out (Nat.le_refl _) _ _ _ _ _, Nat.le_refl _⟩
              | exact ⟨w5.heap.size, A, c, rfl, rfl, rfl, Blk.new w5 _ _ _, HRW.out.keep (below_tokG w5 _), made_alloc HBW.out _, HBW.out.size⟩
        case rest =>
          obtain ⟨b, A, c, rfl, rfl, rfl, HB, HRA, HBc, HLE⟩ := hcut
          have HD2 := Lib.hid (HD1.out.keep HBc.out)
          have hbs : w.heap.size + 1 ≤ b := Nat.le_trans HD1.out.size HLE.out
          clear HD1 HTA HTB HDA HDB HZA KS HBc HLE
          cases tok
          · by_cases hto : tto = (k : Int)
            · have d1 : (tto != (k : Int)) = false := by rw [hto]; simp
              have hst := HST.out
              rw [if_neg (by decide), if_neg (by rw [hto]; exact fun e => e rfl)] at hst
              have HM := Lib.hid (fun W (hW : But (fun j => j = b) wc W) => mread_any x (k : Int) fo W hxs (HO.out.lax.lex HLX.out (HD2.out.butb hW hbs).but))
              have hsome := readM_some (x := B x) (k := k) (fo := fo) (by rw [← size_B]; exact hlt)
              have hkind := tm_kind (B x) k fo
              generalize readM (B x) k fo = rm at *
              obtain ⟨⟨mk, mn, mt⟩, mto, mok⟩ := rm
              simp only [valM, tkM] at HM
              simp only at hst hsome hkind
              have HSY := Lib.hid hst
              have HSM := Lib.hid hsome
              have HKD := Lib.hid hkind
              have KS := Lib.hid (fun W (hW : But (fun j => j = b) wc W) => (show W.cell? ⟨p, 0, none⟩ = some (.string x) ∧ W.cell? ⟨p, 1, none⟩ = some (.int .i64 (k : Int)) ∧ W.cell? ⟨p, 3, none⟩ = some (.bool fo) from ⟨(HD2.out.butb hW hbs).lex.cells.1, (HD2.out.butb hW hbs).lex.cells.2.1, (HD2.out.butb hW hbs).lex.cells.2.2.2.1⟩))
              have HDB := Lib.hid ((But.refl (fun j => j = b) wc).drew)
              have HMB := Lib.hid (HM.out _ HDB.out)
              have HBD := Lib.hid (show Blk wc.drew b 44 #[.int .i64 tk, .string (S tn), .slice A ta.length c, .bool tsf, .string ⟨#[]⟩] (0, 0) from HB.out)
              obtain ⟨k0, k1, _⟩ := HD2.out.lex.cells
              clear hst hsome hkind HM HRA hto
              go_upto_region 9 with (fail)
              go_cut [4, 5] (fun s4 s5 wx => s4 = .int .i64 mto ∧ s5 = .bool mok ∧ Hid (Blk wx b 44 #[.int .i64 mk, .string (S mn), .slice none 0 0, .bool false, .string (S mt)] (0, 0)) ∧ Hid (But (fun j => j = b) wc wx))
              case first =>
                go_region_held3 (fun W => W.cell? ⟨p, 0, none⟩ = some (.string x) ∧ W.cell? ⟨p, 1, none⟩ = some (.int .i64 (k : Int)) ∧ W.cell? ⟨p, 3, none⟩ = some (.bool fo))
                  (first
                    | exact KS.out _ HBW.out
                    | exact KS.out _ HDB.out
                    | exact KS.out _ (set5_butS HBW.out rfl _ _ _ _ _))
                  ((go_at_call 42
                    with_reducible refine HMB.out.mono ?_
                    rintro e w5 ⟨rfl, b5⟩
                    have HBW := Lib.hid (HDB.out.trans (S1 := fun _ => False) (But.of_below b5) (fun _ h => h.elim))
                    have HB5 := Lib.hid (HBD.out.keep b5)
                    obtain ⟨z0, z1, z2, z3, z4, f0, f1, f2, f3, f4⟩ := cells_tokG (HBD.out.keep b5)
                    clear b5))
                all_goals
                  go_wp2_with fail
                  go_meet
                  exact ⟨rfl, rfl, (set5_tokG HB5.out (RowA.nil _ 0) _ _ _ _ _).1, set5_butS HBW.out rfl _ _ _ _ _⟩
              case rest =>
                obtain ⟨rfl, rfl, HBK, HBT⟩ := hcut
                have HD3 := Lib.hid (HD2.out.butb HBT.out hbs)
                clear HMB HBD HDB KS HBT HB k0 k1
                cases mok
                · have HTX := Lib.hid (ltext_any p x ⟨k, mo, fo, st⟩ _ HD3.out.lex ⟨hxs, hkx, HO.out.st, HO.out.lax.lex HLX.out HD3.out.but⟩)
                  have hst := HSY.out
                  rw [if_pos rfl] at hst
                  have HSX := Lib.hid hst
                  clear hst
                  simp only at HTX
                  generalize textX (B x) fo k true = tt at *
                  obtain ⟨tl, tn2⟩ := tt
                  unfold tkG txtT at HTX
                  go_wp2_with fail
                  refine HTX.out.mono ?_
                  rintro e w6 ⟨rfl, hlex, hb6⟩
                  have hres := HD3.out.res.but hb6 (by omega)
                  have hbut := HD3.out.but.trans hb6 (fun _ h => .inl h)
                  have hrow := RowA.nil w6 0
                  obtain ⟨_, _, _, _, _, y0, y1, y2, y3, y4⟩ := cells_tokG hres
                  have hz5 := set5_tokG hres hrow (.int .i64 4) (.string ⟨#[]⟩) (.slice none 0 0) (.bool false) (.string (S tl))
                  have hl5 := set5_lexT hlex (b := w.heap.size) (by omega) (.int .i64 4) (.string ⟨#[]⟩) (.slice none 0 0) (.bool false) (.string (S tl))
                  have hb5 := set5_butT hbut (b := w.heap.size) (Nat.le_refl _) (.int .i64 4) (.string ⟨#[]⟩) (.slice none 0 0) (.bool false) (.string (S tl))
                  have HZ5 := Lib.hid hz5.1
                  have HR5 := Lib.hid hz5.2
                  have HL5 := Lib.hid hl5
                  have HB5 := Lib.hid hb5
                  clear hz5 hl5 hb5 hres hlex hbut hrow hb6
                  go_wp2_with fail
                  refine bodyPost_ret (v := .agg #[.int .i64 4, .string ⟨#[]⟩, .slice none 0 0, .bool false, .string (S tl)]) (results_cell_row (fn := Tryz.f27) (p := 2) rfl _ _ w.heap.size _ #[.int .i64 4, .string ⟨#[]⟩, .slice none 0 0, .bool false, .string (S tl)] (0, 0) _ (by rfl) HZ5.out Tryz.underlying44 (by rfl) (by kernel_rfl)) rfl ?_
                  rw [HSX.out]
                  exact ⟨none, 0, rfl, HR5.out, HL5.out, HB5.out⟩
                · obtain ⟨m, rfl, hkm, hmx⟩ := HSM.out rfl
                  rw [← size_B] at hmx
                  have HDG := Lib.hid (HD3.out.goto m)
                  have HBG := Lib.hid (HBK.out.far (p := ⟨p, 1, none⟩) (by show b ≠ p; omega) (.int .i64 (m : Int)))
                  obtain ⟨_, _, _, _, _, f1, _⟩ := HD3.out.lex.cells
                  obtain ⟨q0, q1, q2, q3, q4, _⟩ := cells_tokG HBG.out
                  by_cases hmk : mk = 0
                  · subst hmk
                    have hst := HSY.out
                    rw [if_neg (by decide), if_neg (by simp)] at hst
                    have HSX := Lib.hid hst
                    clear hst
                    go_wp2_with fail
                    refine ⟨⟨m, HDG.out, hmx, HSX.out.symm⟩, ?_⟩
                    rw [HDG.out.lex.atOf]
                    show x.size - m < x.size - k
                    omega
                  · have d2 : (mk != 0) = true := by rw [bne_iff_ne]; exact hmk
                    have hst := HSY.out
                    rw [if_neg (by decide), if_pos hmk] at hst
                    have HSX := Lib.hid hst
                    clear hst
                    have hres := HDG.out.res
                    have hlex := HDG.out.lex
                    have hbut := HDG.out.but
                    have hrow := RowA.nil (wc.setCell ⟨p, 1, none⟩ (.int .i64 (m : Int))) 0
                    obtain ⟨_, _, _, _, _, y0, y1, y2, y3, y4⟩ := cells_tokG hres
                    have hz5 := set5_tokG hres hrow (.int .i64 mk) (.string (S mn)) (.slice none 0 0) (.bool false) (.string (S mt))
                    have hl5 := set5_lexT hlex (b := w.heap.size) (by omega) (.int .i64 mk) (.string (S mn)) (.slice none 0 0) (.bool false) (.string (S mt))
                    have hb5 := set5_butT hbut (b := w.heap.size) (Nat.le_refl _) (.int .i64 mk) (.string (S mn)) (.slice none 0 0) (.bool false) (.string (S mt))
                    have HZ5 := Lib.hid hz5.1
                    have HR5 := Lib.hid hz5.2
                    have HL5 := Lib.hid hl5
                    have HB5 := Lib.hid hb5
                    clear hz5 hl5 hb5 hres hlex hbut hrow
                    go_wp2_with fail
                    refine bodyPost_ret (v := .agg #[.int .i64 mk, .string (S mn), .slice none 0 0, .bool false, .string (S mt)]) (results_cell_row (fn := Tryz.f27) (p := 2) rfl _ _ w.heap.size _ #[.int .i64 mk, .string (S mn), .slice none 0 0, .bool false, .string (S mt)] (0, 0) _ (by rfl) HZ5.out Tryz.underlying44 (by rfl) (by kernel_rfl)) rfl ?_
                    rw [HSX.out]
                    refine ⟨none, 0, rfl, HR5.out, ?_, HB5.out⟩
                    have hl := HL5.out
                    unfold afterL tmTk
                    rw [if_neg (show ¬ (mk = 2) from HKD.out)]
                    exact hl
            · have d1 : (tto != (k : Int)) = true := by rw [bne_iff_ne]; exact hto
              have hst := HST.out
              rw [if_neg (by decide), if_pos hto] at hst
              have HSX := Lib.hid hst
              obtain ⟨k0, k1, _⟩ := HD2.out.lex.cells
              clear hst hto
              go_wp2_with fail
              go_meet
              exact ⟨k, HD2.out, HSX.out⟩
          · obtain ⟨n, rfl, hkn, hnx⟩ := HSM.out rfl
            have hst := HST.out
            rw [if_pos rfl, Int.toNat_natCast] at hst
            have HSX := Lib.hid hst
            have HDG := Lib.hid (HD2.out.goto n)
            have HBG := Lib.hid (HB.out.far (p := ⟨p, 1, none⟩) (by show b ≠ p; omega) (.int .i64 (n : Int)))
            have HRG := Lib.hid (HRA.out.set HD2.out.lex (by decide) 1 (.int .i64 (n : Int)))
            obtain ⟨_, _, _, _, _, f1, _⟩ := HD2.out.lex.cells
            obtain ⟨q0, q1, q2, q3, q4, _⟩ := cells_tokG HBG.out
            rcases HKD.out rfl with rfl | rfl
            · obtain ⟨_, _, _, _, _, _, _, _, f4⟩ := HDG.out.lex.cells
              have HBN := Lib.hid (HBG.out.far (p := ⟨p, 4, none⟩) (by show b ≠ p; omega) (.string (S tn)))
              obtain ⟨r0, r1, r2, r3, r4, _⟩ := cells_tokG HBN.out
              have hres := HDG.out.res.far (p := ⟨p, 4, none⟩) (by show w.heap.size ≠ p; omega) (.string (S tn))
              have hlex := HDG.out.lex.named (S tn)
              have hbut := HDG.out.but.setCell ⟨p, 4, none⟩ (.string (S tn)) (.inl rfl)
              have hrow := HRG.out.set HDG.out.lex (by decide) 4 (.string (S tn))
              clear hst
              obtain ⟨_, _, _, _, _, y0, y1, y2, y3, y4⟩ := cells_tokG hres
              have hz5 := set5_tokG hres hrow (.int .i64 2) (.string (S tn)) (.slice A ta.length c) (.bool tsf) (.string ⟨#[]⟩)
              have hl5 := set5_lexT hlex (b := w.heap.size) (by omega) (.int .i64 2) (.string (S tn)) (.slice A ta.length c) (.bool tsf) (.string ⟨#[]⟩)
              have hb5 := set5_butT hbut (b := w.heap.size) (Nat.le_refl _) (.int .i64 2) (.string (S tn)) (.slice A ta.length c) (.bool tsf) (.string ⟨#[]⟩)
              have HZ5 := Lib.hid hz5.1
              have HR5 := Lib.hid hz5.2
              have HL5 := Lib.hid hl5
              have HB5 := Lib.hid hb5
              clear hz5 hl5 hb5 hres hlex hbut hrow
              go_wp2_with fail
              refine bodyPost_ret (v := .agg #[.int .i64 2, .string (S tn), .slice A ta.length c, .bool tsf, .string ⟨#[]⟩]) (results_cell_row (fn := Tryz.f27) (p := 2) rfl _ _ w.heap.size _ #[.int .i64 2, .string (S tn), .slice A ta.length c, .bool tsf, .string ⟨#[]⟩] (0, 0) _ (by rfl) HZ5.out Tryz.underlying44 (by rfl) (by kernel_rfl)) rfl ?_
              rw [HSX.out]
              exact ⟨A, c, rfl, HR5.out, HL5.out, HB5.out⟩
            · have hres := HDG.out.res
              have hlex := HDG.out.lex
              have hbut := HDG.out.but
              have hrow := HRG.out
              clear hst
              obtain ⟨_, _, _, _, _, y0, y1, y2, y3, y4⟩ := cells_tokG hres
              have hz5 := set5_tokG hres hrow (.int .i64 3) (.string (S tn)) (.slice A ta.length c) (.bool tsf) (.string ⟨#[]⟩)
              have hl5 := set5_lexT hlex (b := w.heap.size) (by omega) (.int .i64 3) (.string (S tn)) (.slice A ta.length c) (.bool tsf) (.string ⟨#[]⟩)
              have hb5 := set5_butT hbut (b := w.heap.size) (Nat.le_refl _) (.int .i64 3) (.string (S tn)) (.slice A ta.length c) (.bool tsf) (.string ⟨#[]⟩)
              have HZ5 := Lib.hid hz5.1
              have HR5 := Lib.hid hz5.2
              have HL5 := Lib.hid hl5
              have HB5 := Lib.hid hb5
              clear hz5 hl5 hb5 hres hlex hbut hrow
              go_wp2_with fail
              refine bodyPost_ret (v := .agg #[.int .i64 3, .string (S tn), .slice A ta.length c, .bool tsf, .string ⟨#[]⟩]) (results_cell_row (fn := Tryz.f27) (p := 2) rfl _ _ w.heap.size _ #[.int .i64 3, .string (S tn), .slice A ta.length c, .bool tsf, .string ⟨#[]⟩] (0, 0) _ (by rfl) HZ5.out Tryz.underlying44 (by rfl) (by kernel_rfl)) rfl ?_
              rw [HSX.out]
              exact ⟨A, c, rfl, HR5.out, HL5.out, HB5.out⟩
      · have d0 : decide ((k : Int) < (x.size : Int)) = false := decide_eq_false (by omega)
        go_wp2_with fail
        refine wp_region_after (by kernel_rfl) (by kernel_rfl) ?_
        repeat (any_goals (go_big_quiet_step (fail)))
        refine wpQuiet_nil ?_
        rintro w' ⟨n1, rfl⟩
        have HD1 := Lib.hid (HD.out.keep n1.below)
        clear cc0 cc1
        go_wp2_with fail
        go_meet
        have hst := HST.out
        rw [if_pos (by omega)] at hst
        exact ⟨k, HD1.out, hst⟩
  case rest =>
    obtain ⟨k, HD, HDXE⟩ := hcut
    have HDG := Lib.hid (HD.out.goto x.size)
    obtain ⟨k0, _, _, _, _, f1, _⟩ := HD.out.lex.cells
    have hres := HDG.out.res
    have hlex := HDG.out.lex
    have hbut := HDG.out.but
    have hrow := RowA.nil (wc.setCell ⟨p, 1, none⟩ (.int .i64 (x.size : Int))) 0
    obtain ⟨_, _, _, _, _, y0, y1, y2, y3, y4⟩ := cells_tokG hres
    have hz5 := set5_tokG hres hrow (.int .i64 6) (.string ⟨#[]⟩) (.slice none 0 0) (.bool false) (.string ⟨#[]⟩)
    have hl5 := set5_lexT hlex (b := w.heap.size) (by omega) (.int .i64 6) (.string ⟨#[]⟩) (.slice none 0 0) (.bool false) (.string ⟨#[]⟩)
    have hb5 := set5_butT hbut (b := w.heap.size) (Nat.le_refl _) (.int .i64 6) (.string ⟨#[]⟩) (.slice none 0 0) (.bool false) (.string ⟨#[]⟩)
    have HZ5 := Lib.hid hz5.1
    have HR5 := Lib.hid hz5.2
    have HL5 := Lib.hid hl5
    have HB5 := Lib.hid hb5
    clear hz5 hl5 hb5 hres hlex hbut hrow
    go_wp2_with fail
    refine bodyPost_ret (v := .agg #[.int .i64 6, .string ⟨#[]⟩, .slice none 0 0, .bool false, .string ⟨#[]⟩]) (results_cell_row (fn := Tryz.f27) (p := 2) rfl _ _ w.heap.size _ #[.int .i64 6, .string ⟨#[]⟩, .slice none 0 0, .bool false, .string ⟨#[]⟩] (0, 0) _ (by rfl) HZ5.out Tryz.underlying44 (by rfl) (by kernel_rfl)) rfl ?_
    rw [HDXE.out]
    exact ⟨none, 0, rfl, HR5.out, HL5.out, HB5.out⟩
end Go.Proofs.YtdjeajbinpgpiaaGreat
