/- The reference's lexer: tag. -/
import Derived.Test.YtdjeajbinpgpiaaGreatJLexerTellsLexRfM
import Derived.Test.YtdjeajbinpgpiaaGreatJLexerTellsLexD
namespace Go.Proofs.YtdjeajbinpgpiaaGreat
open Go.RowKit Go.BigFrame

theorem set5_far {w : World} {p b : Nat} {t : TypeId} {cs : Array Value} {fr : Nat × Nat} (h : Blk w p t cs fr) (hne : p ≠ b) (u0 u1 u2 u3 u4 : Value) : Blk (((((w.setCell ⟨b, 0, none⟩ u0).setCell ⟨b, 1, none⟩ u1).setCell ⟨b, 2, none⟩ u2).setCell ⟨b, 3, none⟩ u3).setCell ⟨b, 4, none⟩ u4) p t cs fr :=
  ((((Blk.far h (p := ⟨b, 0, none⟩) hne u0).far (p := ⟨b, 1, none⟩) hne u1).far (p := ⟨b, 2, none⟩) hne u2).far (p := ⟨b, 3, none⟩) hne u3).far (p := ⟨b, 4, none⟩) hne u4
/-- What the reference's functions hand over. -/
def RefTo (w : World) (p : Nat) (x : ByteArray) (t : Tk) (s : Lx) (e : Ending) (w' : World) : Prop := ∃ A c, e = .returned (tkG t A c) ∧ RowA w' 0 (.slice A t.al.length c) t.al ∧ RefAt w' p x s ∧ But (fun k => k = p) w w'
structure ReafAt (w0 w : World) (p : Nat) (x : ByteArray) (s : Lx) : Prop where
  ref : RefAt w p x s
  but : But (fun j => j = p) w0 w
  base : p < w0.heap.size
  size : w0.heap.size + 1 ≤ w.heap.size
  res : Blk w w0.heap.size 44 #[.int .i64 0, .string ⟨#[]⟩, .slice none 0 0, .bool false, .string ⟨#[]⟩] (0, 0)
theorem ReafAt.butb {w0 w w2 : World} {p b : Nat} {x : ByteArray} {s : Lx} (h : ReafAt w0 w p x s) (hb : But (fun j => j = b) w w2) (hlt : w0.heap.size + 1 ≤ b) : ReafAt w0 w2 p x s :=
  ⟨Blk.but h.ref hb (by have := h.base; omega), h.but.trans hb (fun k hk => .inr (by omega)), h.base, Nat.le_trans h.size hb.size, h.res.but hb (by omega)⟩
theorem ReafAt.keep {w0 w w2 : World} {p : Nat} {x : ByteArray} {s : Lx} (h : ReafAt w0 w p x s) (hb : Below w.heap.size w w2) : ReafAt w0 w2 p x s := h.butb (b := w.heap.size) (But.of_below hb) h.size
theorem ReafAt.goto {w0 w : World} {p : Nat} {x : ByteArray} {s : Lx} (h : ReafAt w0 w p x s) (j : Nat) : ReafAt w0 (w.setCell ⟨p, 1, none⟩ (.int .i64 (j : Int))) p x { s with at_ := j } :=
  ⟨h.ref.goto j, h.but.setCell _ _ (.inl rfl), h.base, by rw [World.size_setCell]; exact h.size, h.res.far (by have := h.base; show w0.heap.size ≠ p; omega) _⟩
theorem ReafAt.moded {w0 w : World} {p : Nat} {x : ByteArray} {s : Lx} (h : ReafAt w0 w p x s) (m : Int) : ReafAt w0 (w.setCell ⟨p, 2, none⟩ (.int .i64 m)) p x { s with mode := m } :=
  ⟨h.ref.moded m, h.but.setCell _ _ (.inl rfl), h.base, by rw [World.size_setCell]; exact h.size, h.res.far (by have := h.base; show w0.heap.size ≠ p; omega) _⟩
theorem ReafAt.named {w0 w : World} {p : Nat} {x : ByteArray} {s : Lx} (h : ReafAt w0 w p x s) (nm : ByteArray) : ReafAt w0 (w.setCell ⟨p, 3, none⟩ (.string nm)) p x { s with st := nm } :=
  ⟨h.ref.named nm, h.but.setCell _ _ (.inl rfl), h.base, by rw [World.size_setCell]; exact h.size, h.res.far (by have := h.base; show w0.heap.size ≠ p; omega) _⟩
/-- A token is handed over. -/
theorem ReafAt.out {w0 w : World} {p : Nat} {x : ByteArray} {s : Lx} (h : ReafAt w0 w p x s) {A : Option Addr} {c : Nat} {al : List At} (hr : RowA w 0 (.slice A al.length c) al) (kd : Int) (nm : ByteArray) (sf : Bool) (tx : ByteArray) :
    Blk (((((w.setCell ⟨w0.heap.size, 0, none⟩ (.int .i64 kd)).setCell ⟨w0.heap.size, 1, none⟩ (.string nm)).setCell ⟨w0.heap.size, 2, none⟩ (.slice A al.length c)).setCell ⟨w0.heap.size, 3, none⟩ (.bool sf)).setCell ⟨w0.heap.size, 4, none⟩ (.string tx)) w0.heap.size 44 #[.int .i64 kd, .string nm, .slice A al.length c, .bool sf, .string tx] (0, 0) ∧
    RefTo w0 p x ⟨kd, nm, al, sf, tx⟩ s (.returned (.agg #[.int .i64 kd, .string nm, .slice A al.length c, .bool sf, .string tx])) (((((w.setCell ⟨w0.heap.size, 0, none⟩ (.int .i64 kd)).setCell ⟨w0.heap.size, 1, none⟩ (.string nm)).setCell ⟨w0.heap.size, 2, none⟩ (.slice A al.length c)).setCell ⟨w0.heap.size, 3, none⟩ (.bool sf)).setCell ⟨w0.heap.size, 4, none⟩ (.string tx)) := by
  obtain ⟨z, r⟩ := set5_tokG h.res hr (.int .i64 kd) (.string nm) (.slice A al.length c) (.bool sf) (.string tx)
  exact ⟨z, A, c, rfl, r, set5_far h.ref (by have := h.base; omega) _ _ _ _ _, set5_butT h.but (Nat.le_refl _) _ _ _ _ _⟩
theorem reaf_start {w : World} {p : Nat} {x : ByteArray} {s : Lx} (h : RefAt w p x s) : ReafAt w (w.alloc (.cells #[.int .i64 0, .string ⟨#[]⟩, .slice none 0 0, .bool false, .string ⟨#[]⟩] 44)) p x s :=
  ⟨h.keep (below_tokG w _), But.of_below (below_tokG w _), Blk.lt h, by simp, Blk.new w _ _ _⟩
set_option maxHeartbeats 8000000 in
set_option maxRecDepth 100000 in
theorem rftag_any (p : Nat) (x : ByteArray) (s : Lx) (w : World) (h : RefAt w p x s) (hxs : x.size ≤ 65536) :
    Calls Tryz.prog 32 #[.pointer (some ⟨p, 0, none⟩)] w (RefTo w p x (tagX (B x) s.at_).1 (afterL s (tagX (B x) s.at_))) := by
  have hplt : p < w.heap.size := Blk.lt h
  have hlen : (B x).length = x.size := (size_B x).symm
  have hD := reaf_start h
  obtain ⟨a, mo, fo, st⟩ := s
  simp only at *
  obtain ⟨w1, hw1⟩ : ∃ w1, w1 = w.alloc (.cells #[.int .i64 0, .string ⟨#[]⟩, .slice none 0 0, .bool false, .string ⟨#[]⟩] 44) := ⟨_, rfl⟩
  have HW1 := Lib.hid hw1.symm
  rw [← hw1] at hD
  have HD := Lib.hid hD
  have hT := fun W => rtread_any x W hxs (a : Int)
  have htx : tagX (B x) a = if (readT (B x) a).2.2 = true then (tgTk (readT (B x) a).1, (readT (B x) a).2.1.toNat) else (eofT, x.size) := by unfold tagX; rw [hlen]
  have hsome := readT_some (x := B x) (k := a)
  have hkind := tg_kind (B x) a
  obtain ⟨TX, hTX⟩ : ∃ d, tagX (B x) a = d := ⟨_, rfl⟩
  rw [hTX] at htx ⊢
  generalize readT (B x) a = rt at *
  obtain ⟨⟨tk, tn, ta, tsf⟩, tto, tok⟩ := rt
  unfold ReadOut tkV at hT
  simp only at hT hsome hkind htx
  have HST := Lib.hid htx
  have HSM := Lib.hid hsome
  have HKD := Lib.hid hkind
  have cc0 : ∀ n : After w1, n.W.cell? ⟨p, 0, none⟩ = some (.string x) := fun n => (hD.keep n.below).ref.cells.1
  have cc1 : ∀ n : After w1, n.W.cell? ⟨p, 1, none⟩ = some (.int .i64 (a : Int)) := fun n => (hD.keep n.below).ref.cells.2.1
  have KS := Lib.hid (fun W (hW : Below w1.heap.size w1 W) => (show W.cell? ⟨p, 0, none⟩ = some (.string x) ∧ W.cell? ⟨p, 1, none⟩ = some (.int .i64 (a : Int)) from ⟨(hD.keep hW).ref.cells.1, (hD.keep hW).ref.cells.2.1⟩))
  have HDB := Lib.hid (made_drew w1)
  have HDA := Lib.hid (tok_alloc_below w1 #[.int .i64 0, .string ⟨#[]⟩, .slice none 0 0, .bool false, .string ⟨#[]⟩])
  have HZA := Lib.hid (show Blk (w1.alloc (.cells #[.int .i64 0, .string ⟨#[]⟩, .slice none 0 0, .bool false, .string ⟨#[]⟩] 44)).drew w1.heap.size 44 #[.int .i64 0, .string ⟨#[]⟩, .slice none 0 0, .bool false, .string ⟨#[]⟩] (0, 0) from Blk.new w1 _ _ _)
  have HTB := Lib.hid (hT w1.drew)
  have HTA := Lib.hid (hT (w1.alloc (.cells #[.int .i64 0, .string ⟨#[]⟩, .slice none 0 0, .bool false, .string ⟨#[]⟩] 44)).drew)
  clear h hD hw1 hT htx hsome hkind hTX hlen cc0 cc1
  go_enter Tryz.func32, Tryz.ntmps32
  go_upto_region 1 with (fail)
  rw [HW1.out]
  go_cut [3, 4, 5] (fun s3 s4 s5 wx => ∃ b A c, s3 = .pointer (some ⟨b, 0, none⟩) ∧ s4 = .int .i64 tto ∧ s5 = .bool tok ∧ Hid (Blk wx b 44 #[.int .i64 tk, .string (S tn), .slice A ta.length c, .bool tsf, .string ⟨#[]⟩] (0, 0)) ∧ Hid (RowA wx 0 (.slice A ta.length c) ta) ∧ Hid (Below w1.heap.size w1 wx) ∧ Hid (w1.heap.size ≤ b))
  case first =>
    go_region_held3 (fun W => W.cell? ⟨p, 0, none⟩ = some (.string x) ∧ W.cell? ⟨p, 1, none⟩ = some (.int .i64 (a : Int)))
      (first
        | exact KS.out _ HBW.out
        | exact KS.out _ HDB.out
        | exact KS.out _ HDA.out
        | exact KS.out _ (made_alloc HBW.out _)
        | exact KS.out _ (set5_belowG HBW.out (Nat.le_refl _) _ _ _ _ _))
      ((go_at_call 46
        first
          | (with_reducible refine HTB.out.mono ?_
             rintro e w5 ⟨A, c, rfl, _, ⟨_, hrw⟩, b5⟩
             have HRW := Lib.hid hrw
             have HBW := Lib.hid (below_then HDB.out HDB.out.size b5)
             clear b5 hrw)
          | (with_reducible refine HTA.out.mono ?_
             rintro e w5 ⟨A, c, rfl, _, ⟨_, hrw⟩, b5⟩
             have HRW := Lib.hid hrw
             have HBW := Lib.hid (below_then HDA.out HDA.out.size b5)
             have HZ5 := Lib.hid (HZA.out.keep b5)
             obtain ⟨z0, z1, z2, z3, z4, f0, f1, f2, f3, f4⟩ := cells_tokG (HZA.out.keep b5)
             clear b5 hrw)))
    all_goals
      go_wp2_with fail
      go_meet
      first
        | exact ⟨w1.heap.size, A, c, rfl, rfl, rfl, (set5_tokG HZ5.out HRW.out _ _ _ _ _).1, (set5_tokG HZ5.out HRW.out _ _ _ _ _).2, set5_belowG HBW.out (Nat.le_refl _) _ _ _ _ _, Nat.le_refl _⟩
        | exact ⟨w5.heap.size, A, c, rfl, rfl, rfl, Blk.new w5 _ _ _, HRW.out.keep (below_tokG w5 _), made_alloc HBW.out _, HBW.out.size⟩
  case rest =>
    obtain ⟨b, A, c, rfl, rfl, rfl, HB, HRA, HBc, HLE⟩ := hcut
    have HD2 := Lib.hid (HD.out.keep HBc.out)
    have hbs : w.heap.size + 1 ≤ b := Nat.le_trans HD.out.size HLE.out
    clear HD HTA HTB HDA HDB HZA KS HBc HLE
    obtain ⟨k0, k1, _, _, _, f1, _⟩ := HD2.out.ref.cells
    cases tok
    · have HSX := Lib.hid (show TX = (eofT, x.size) by have := HST.out; rwa [if_neg (by decide)] at this)
      have h3 := (HD2.out.ref.goto 0)
      have HDG := Lib.hid (show ReafAt w ((wc.setCell ⟨p, 1, none⟩ (.int .i64 tto)).setCell ⟨p, 1, none⟩ (.int .i64 (x.size : Int))) p x ⟨x.size, mo, fo, st⟩ from by
        have hb1 : Blk (wc.setCell ⟨p, 1, none⟩ (.int .i64 tto)) p 40 #[.string x, .int .i64 tto, .int .i64 mo, .string st, .bool fo] (0, 0) := Blk.set HD2.out.ref 1 (.int .i64 tto)
        have hp := HD2.out.base
        exact ⟨Blk.set hb1 1 (.int .i64 (x.size : Int)), (HD2.out.but.setCell _ _ (.inl rfl)).setCell _ _ (.inl rfl), hp, by rw [World.size_setCell, World.size_setCell]; exact HD2.out.size, (HD2.out.res.far (by show w.heap.size ≠ p; omega) _).far (by show w.heap.size ≠ p; omega) _⟩)
      obtain ⟨hz, hto⟩ := HDG.out.out (RowA.nil _ 0) 6 ⟨#[]⟩ false ⟨#[]⟩
      obtain ⟨_, _, _, _, _, y0, y1, y2, y3, y4⟩ := cells_tokG HDG.out.res
      have HZ := Lib.hid hz
      have HTO := Lib.hid hto
      clear h3 hz hto
      go_wp2_with fail
      refine bodyPost_ret (v := .agg #[.int .i64 6, .string ⟨#[]⟩, .slice none 0 0, .bool false, .string ⟨#[]⟩]) (results_cell_row (fn := Tryz.f32) (p := 2) rfl _ _ w.heap.size _ #[.int .i64 6, .string ⟨#[]⟩, .slice none 0 0, .bool false, .string ⟨#[]⟩] (0, 0) _ (by rfl) HZ.out Tryz.underlying44 (by rfl) (by kernel_rfl)) rfl ?_
      rw [HSX.out]
      exact HTO.out
    · obtain ⟨n, rfl, hkn, hnx⟩ := HSM.out rfl
      have HSX := Lib.hid (show TX = (⟨tk, S tn, ta, tsf, ⟨#[]⟩⟩, n) by have := HST.out; rw [if_pos rfl, Int.toNat_natCast] at this; exact this)
      have HDG := Lib.hid (HD2.out.goto n)
      have HBG := Lib.hid (HB.out.far (p := ⟨p, 1, none⟩) (by show b ≠ p; omega) (.int .i64 (n : Int)))
      have HRG := Lib.hid (HRA.out.set HD2.out.ref (by decide) 1 (.int .i64 (n : Int)))
      obtain ⟨q0, q1, q2, q3, q4, _⟩ := cells_tokG HBG.out
      rcases HKD.out rfl with rfl | rfl
      · obtain ⟨_, _, _, _, _, _, _, f3, _⟩ := HDG.out.ref.cells
        have HBN := Lib.hid (HBG.out.far (p := ⟨p, 3, none⟩) (by show b ≠ p; omega) (.string (S tn)))
        obtain ⟨r0, r1, r2, r3, r4, _⟩ := cells_tokG HBN.out
        have HDN := Lib.hid (HDG.out.named (S tn))
        have HRN := Lib.hid (HRG.out.set HDG.out.ref (by decide) 3 (.string (S tn)))
        obtain ⟨hz, hto⟩ := HDN.out.out HRN.out 2 (S tn) tsf ⟨#[]⟩
        obtain ⟨_, _, _, _, _, y0, y1, y2, y3, y4⟩ := cells_tokG HDN.out.res
        have HZ := Lib.hid hz
        have HTO := Lib.hid hto
        clear hz hto
        go_wp2_with fail
        refine bodyPost_ret (v := .agg #[.int .i64 2, .string (S tn), .slice A ta.length c, .bool tsf, .string ⟨#[]⟩]) (results_cell_row (fn := Tryz.f32) (p := 2) rfl _ _ w.heap.size _ #[.int .i64 2, .string (S tn), .slice A ta.length c, .bool tsf, .string ⟨#[]⟩] (0, 0) _ (by rfl) HZ.out Tryz.underlying44 (by rfl) (by kernel_rfl)) rfl ?_
        rw [HSX.out]
        exact HTO.out
      · obtain ⟨hz, hto⟩ := HDG.out.out HRG.out 3 (S tn) tsf ⟨#[]⟩
        obtain ⟨_, _, _, _, _, y0, y1, y2, y3, y4⟩ := cells_tokG HDG.out.res
        have HZ := Lib.hid hz
        have HTO := Lib.hid hto
        clear hz hto
        go_wp2_with fail
        refine bodyPost_ret (v := .agg #[.int .i64 3, .string (S tn), .slice A ta.length c, .bool tsf, .string ⟨#[]⟩]) (results_cell_row (fn := Tryz.f32) (p := 2) rfl _ _ w.heap.size _ #[.int .i64 3, .string (S tn), .slice A ta.length c, .bool tsf, .string ⟨#[]⟩] (0, 0) _ (by rfl) HZ.out Tryz.underlying44 (by rfl) (by kernel_rfl)) rfl ?_
        rw [HSX.out]
        exact HTO.out
end Go.Proofs.YtdjeajbinpgpiaaGreat
