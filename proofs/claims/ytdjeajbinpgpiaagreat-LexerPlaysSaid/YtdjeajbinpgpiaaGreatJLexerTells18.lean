/- Joined texts: LexT, LexRfP. -/
import Derived.Test.YtdjeajbinpgpiaaGreatJLexerTells17
import Derived.LoopN
import Derived.Test.YtdjeajbinpgpiaaGreatJLexerTells11
namespace Go.Proofs.YtdjeajbinpgpiaaGreat
open Go.RowKit Go.BigFrame

theorem bat_but {S : Nat → Prop} {p : Value} {w w1 : World} {Bs b : Nat} {bs : List Value} (h : Lib.BuilderAt 75 5 Bs b p bs w) (hb : But S w w1) (hS : ∀ k, S k → k < Bs) : Lib.BuilderAt 75 5 Bs b p bs w1 := by
  obtain ⟨h1, v, h2, h3, h4⟩ := h
  exact ⟨h1, v, hb.heap h2 (fun hs => by have := hS _ hs; omega), owns_but h3 hb (fun g hg hs => by have := hS _ hs; have := (h3.lt g hg).1; omega), h4⟩
theorem Bld.but {S : Nat → Prop} {w w1 : World} {Bs b : Nat} {l : List UInt8} (h : Bld w Bs b l) (hb : But S w w1) (hS : ∀ k, S k → k < Bs) : Bld w1 Bs b l := h.imp (fun h => bat_but h hb hS) (fun h => bat_but h hb hS)
def atOf (w : World) (p : Nat) : Nat := match w.cell? ⟨p, 1, none⟩ with
  | some (.int _ z) => z.toNat
  | _ => 0
theorem LexAt.atOf {w : World} {p : Nat} {x : ByteArray} {s : Lx} (h : LexAt w p x s) : atOf w p = s.at_ := by
  unfold Proofs.YtdjeajbinpgpiaaGreat.atOf
  rw [h.cells.2.1]
  exact Int.toNat_natCast _

/-! ### what has been gathered -/
def Gath (x : List UInt8) (fo : Bool) (a k : Nat) (l : List UInt8) : Prop :=
  a ≤ k ∧ k ≤ x.length ∧ textX x fo a true = (l ++ (textX x fo k (decide (k = a))).1, (textX x fo k (decide (k = a))).2)
theorem gath_start (x : List UInt8) (fo : Bool) (a : Nat) (h : a ≤ x.length) : Gath x fo a a [] := ⟨Nat.le_refl _, h, by simp⟩
theorem Gath.size {x : List UInt8} {fo : Bool} {a k : Nat} {l : List UInt8} (h : Gath x fo a k l) : l.length ≤ 6 * x.length := by
  have := (textX_bd x fo a true (by have := h.1; have := h.2.1; omega)).2.2
  rw [h.2.2, List.length_append] at this
  omega
theorem gath_amp {x : List UInt8} {fo : Bool} {a k : Nat} {l : List UInt8} (h : Gath x fo a k l) (hc : x[k]? = some 38) : Gath x fo a (k + (refS false (x.drop k)).2) (l ++ (refS false (x.drop k)).1) := by
  have hlt := lt_of_at hc
  have hr := ref_bd hlt
  obtain ⟨h1, h2, h3⟩ := h
  refine ⟨by omega, by omega, ?_⟩
  rw [h3, textX_step x fo k _ h2, hc]
  simp only
  rw [if_neg (by simp), if_pos trivial, decide_eq_false (show ¬ k + (refS false (x.drop k)).2 = a by omega), List.append_assoc]
theorem gath_plain {x : List UInt8} {fo : Bool} {a k : Nat} {l : List UInt8} {c : UInt8} (h : Gath x fo a k l) (hc : x[k]? = some c) (h38 : c ≠ 38) (hm : c = 60 → k = a ∨ markedX x fo k = false) :
    Gath x fo a (untilL x [60, 38] (k + 1)) (l ++ pieceL x k (untilL x [60, 38] (k + 1))) ∧ k < untilL x [60, 38] (k + 1) ∧ untilL x [60, 38] (k + 1) ≤ x.length := by
  have hlt := lt_of_at hc
  have hb := until_bd x [60, 38] (k + 1) (by omega)
  obtain ⟨h1, h2, h3⟩ := h
  refine ⟨⟨by omega, hb.2, ?_⟩, by omega, hb.2⟩
  rw [h3, textX_plain x fo k (untilL x [60, 38] (k + 1)) _ hlt (by omega) hb.2 (fun c' hc' => ?_) (fun i c' h4 h5 hi => ?_), decide_eq_false (show ¬ untilL x [60, 38] (k + 1) = a by omega), List.append_assoc]
  · rw [hc] at hc'
    cases hc'
    refine ⟨?_, h38⟩
    cases he : c == 60 with
    | false => rfl
    | true =>
      rcases hm (beq_iff_eq.1 he) with e | e
      · rw [e, decide_eq_true rfl]; rfl
      · rw [e]; simp
  · have h6 := lt_of_at hi
    have h7 := stopL_mem _ x (k + 1) i (by omega) (by omega) h5 h6
    rw [(List.getElem?_eq_some_iff.1 hi).2] at h7
    have h8 : hasB [60, 38] c' = false := by simpa using h7
    constructor
    · intro e; rw [e] at h8; exact absurd h8 (by decide)
    · intro e; rw [e] at h8; exact absurd h8 (by decide)
theorem gath_mark {x : List UInt8} {fo : Bool} {a k : Nat} {l : List UInt8} (h : Gath x fo a k l) (hc : x[k]? = some 60) (hk : a < k) (hm : markedX x fo k = true) : textX x fo a true = (l, k) := by
  rw [h.2.2, textX_step x fo k _ h.2.1, hc]
  simp only
  rw [decide_eq_false (show ¬ k = a by omega), hm, if_pos (by decide), List.append_nil]
theorem gath_end {x : List UInt8} {fo : Bool} {a k : Nat} {l : List UInt8} (h : Gath x fo a k l) (hk : ¬ k < x.length) : textX x fo a true = (l, k) := by
  rw [h.2.2, textX_step x fo k _ h.2.1, List.getElem?_eq_none (by omega)]
  simp only
  rw [List.append_nil]

theorem but_above {w w1 : World} {Bs : Nat} (h : Below Bs w w1) : But (fun k => Bs ≤ k) w w1 := ⟨h.os, h.tape, h.output, h.size, fun k _ hn => h.block k (by omega)⟩
/-- How text is gathered: the lexer, and the builder beside it. -/
structure TextAt (w0 w : World) (p : Nat) (x : ByteArray) (s : Lx) (k b : Nat) (l : List UInt8) : Prop where
  lex : LexAt w p x { s with at_ := k }
  bld : Bld w (w0.heap.size + 1) b l
  but : But (fun j => j = p) w0 w
  base : p < w0.heap.size
  size : w0.heap.size + 1 ≤ w.heap.size
  res : Blk w w0.heap.size 44 #[.int .i64 0, .string ⟨#[]⟩, .slice none 0 0, .bool false, .string ⟨#[]⟩] (0, 0)
theorem TextAt.keep {w0 w w2 : World} {p : Nat} {x : ByteArray} {s : Lx} {k b : Nat} {l : List UInt8} (h : TextAt w0 w p x s k b l) (hb : Below w.heap.size w w2) : TextAt w0 w2 p x s k b l :=
  ⟨h.lex.keep hb, h.bld.keep hb, h.but.trans (S1 := fun _ => False) (But.of_below hb) (fun _ h => h.elim), h.base, Nat.le_trans h.size hb.size, h.res.keep hb⟩
theorem TextAt.goto {w0 w : World} {p : Nat} {x : ByteArray} {s : Lx} {k b : Nat} {l : List UInt8} (h : TextAt w0 w p x s k b l) (j : Nat) : TextAt w0 (w.setCell ⟨p, 1, none⟩ (.int .i64 (j : Int))) p x s j b l :=
  ⟨h.lex.goto j, h.bld.but (S := fun k => k = p) ((But.refl _ _).setCell _ _ (.inl rfl)) (fun k e => by have := h.base; omega), h.but.setCell _ _ (.inl rfl), h.base, by rw [World.size_setCell]; exact h.size, h.res.far (by have := h.base; show w0.heap.size ≠ p; omega) _⟩
theorem TextAt.write {w0 w w2 : World} {p : Nat} {x : ByteArray} {s : Lx} {k b : Nat} {l l2 : List UInt8} (h : TextAt w0 w p x s k b l) (h2 : Bld w2 (w0.heap.size + 1) b l2) (hb : Below (w0.heap.size + 1) w w2) : TextAt w0 w2 p x s k b l2 :=
  ⟨Blk.below h.lex hb (by have := h.base; omega), h2, h.but.trans (but_above hb) (fun k hk => .inr (by omega)), h.base, Nat.le_trans h.size hb.size, h.res.below hb (Nat.lt_succ_self _)⟩
theorem after_text {w0 w : World} {p : Nat} {x : ByteArray} {s : Lx} {k b : Nat} {l : List UInt8} (h : TextAt w0 w p x s k b l) (n : After w) : n.W.cell? ⟨p, 0, none⟩ = some (.string x) ∧ n.W.cell? ⟨p, 1, none⟩ = some (.int .i64 (k : Int)) :=
  ⟨(h.lex.keep n.below).cells.1, (h.lex.keep n.below).cells.2.1⟩

theorem Lax.lex {w w1 : World} {p : Nat} {x : ByteArray} {s : Lx} (hL : Lax w) (h : LexAt w p x s) (hb : But (fun k => k = p) w w1) : Lax w1 := by
  obtain ⟨m, hm⟩ := hL
  have hp0 := h.cells.1
  refine ⟨m, ?_⟩
  have hlt := World.block_lt_of_cell? w _ hm
  have hne : ¬ (0 : Nat) = p := fun e => by
    rw [← e] at hp0
    have e2 := hm.symm.trans hp0
    cases e2
  have := hb.block _ hlt hne
  rw [← hm]
  exact World.cell?_of_block this
theorem set5_lexT {w : World} {p b : Nat} {x : ByteArray} {s : Lx} (h : LexAt w p x s) (hne : p ≠ b) (u0 u1 u2 u3 u4 : Value) : LexAt (((((w.setCell ⟨b, 0, none⟩ u0).setCell ⟨b, 1, none⟩ u1).setCell ⟨b, 2, none⟩ u2).setCell ⟨b, 3, none⟩ u3).setCell ⟨b, 4, none⟩ u4) p x s :=
  ((((Blk.far h (p := ⟨b, 0, none⟩) hne u0).far (p := ⟨b, 1, none⟩) hne u1).far (p := ⟨b, 2, none⟩) hne u2).far (p := ⟨b, 3, none⟩) hne u3).far (p := ⟨b, 4, none⟩) hne u4
theorem set5_butT {S : Nat → Prop} {w w1 : World} {b : Nat} (h : But S w w1) (hb : w.heap.size ≤ b) (u0 u1 u2 u3 u4 : Value) : But S w (((((w1.setCell ⟨b, 0, none⟩ u0).setCell ⟨b, 1, none⟩ u1).setCell ⟨b, 2, none⟩ u2).setCell ⟨b, 3, none⟩ u3).setCell ⟨b, 4, none⟩ u4) :=
  ((((h.setCell _ _ (.inr hb)).setCell _ _ (.inr hb)).setCell _ _ (.inr hb)).setCell _ _ (.inr hb)).setCell _ _ (.inr hb)
set_option maxHeartbeats 8000000 in
set_option maxRecDepth 100000 in
theorem ltext_any (p : Nat) (x : ByteArray) (s : Lx) (w : World) (h : LexAt w p x s) (ho : LexOk w x s) :
    Calls Tryz.prog 43 #[.pointer (some ⟨p, 0, none⟩)] w fun e w' => e = .returned (tkG (txtT (textX (B x) s.fo s.at_ true).1) none 0) ∧ LexAt w' p x { s with at_ := (textX (B x) s.fo s.at_ true).2 } ∧ But (fun k => k = p) w w' := by
  have hplt : p < w.heap.size := Blk.lt h
  have hxs := ho.size
  have hal := ho.at_
  have HO := Lib.hid ho
  obtain ⟨a, mo, fo, st⟩ := s
  simp only at *
  have hb0 : Below w.heap.size w ((w.alloc (.cells #[.int .i64 0, .string ⟨#[]⟩, .slice none 0 0, .bool false, .string ⟨#[]⟩] 44)).alloc (.cells #[.pointer none, .slice none 0 0] 75)) := ((Below.refl _ _).alloc (Nat.le_refl _) _).alloc (by simp) _
  have hz := (Blk.new w 44 #[.int .i64 0, .string ⟨#[]⟩, .slice none 0 0, .bool false, .string ⟨#[]⟩] (0, 0)).alloc (.cells #[.pointer none, .slice none 0 0] 75)
  have hbl := Bld.new (w.alloc (.cells #[.int .i64 0, .string ⟨#[]⟩, .slice none 0 0, .bool false, .string ⟨#[]⟩] 44))
  rw [show (w.alloc (.cells #[.int .i64 0, .string ⟨#[]⟩, .slice none 0 0, .bool false, .string ⟨#[]⟩] 44)).heap.size = w.heap.size + 1 by simp] at hbl
  obtain ⟨w1, hw1⟩ : ∃ w1, w1 = (w.alloc (.cells #[.int .i64 0, .string ⟨#[]⟩, .slice none 0 0, .bool false, .string ⟨#[]⟩] 44)).alloc (.cells #[.pointer none, .slice none 0 0] 75) := ⟨_, rfl⟩
  have HW1 := Lib.hid hw1.symm
  have hsz1 : w1.heap.size = w.heap.size + 2 := by rw [hw1]; simp
  rw [← hw1] at hb0 hz hbl
  have hTA : TextAt w w1 p x ⟨a, mo, fo, st⟩ a (w.heap.size + 1) [] := ⟨h.keep hb0, hbl, But.of_below hb0, hplt, by omega, hz⟩
  obtain ⟨k0, k1, _⟩ := (h.keep hb0).cells
  rw [hw1] at k0 k1
  have HTA := Lib.hid hTA
  have HZ := Lib.hid hz
  have HL0 := Lib.hid h
  have HG0 := Lib.hid (gath_start (B x) fo a (by rw [← size_B]; exact hal))
  clear h ho hb0 hz hbl hTA hw1
  go_enter Tryz.func43, Tryz.ntmps43
  go_upto_block 0 with (fail)
  rw [HW1.out]
  clear k0 k1
  go_cut [] (fun wx => ∃ l, TextAt w wx p x ⟨a, mo, fo, st⟩ (textX (B x) fo a true).2 (w.heap.size + 1) l ∧ (textX (B x) fo a true).1 = l)
  case first =>
    go_wp2_with fail
    go_loopw [] (fun wr => ∃ (k : Nat) (l : List UInt8), TextAt w wr p x ⟨a, mo, fo, st⟩ k (w.heap.size + 1) l ∧ Hid (Gath (B x) fo a k l)) (fun wr => x.size - atOf wr p)
    case atStart => exact ⟨a, [], HTA.out, HG0.out⟩
    case round =>
      obtain ⟨k, l, hta, HG⟩ := hrel
      have HT := Lib.hid hta
      have hkx : k ≤ x.size := by have := HG.out.2.1; rw [size_B]; exact this
      have hat : atOf wr p = k := hta.lex.atOf
      rw [hat]
      have cc0 : ∀ n : After wr, n.W.cell? ⟨p, 0, none⟩ = some (.string x) := fun n => (after_text hta n).1
      have cc1 : ∀ n : After wr, n.W.cell? ⟨p, 1, none⟩ = some (.int .i64 (k : Int)) := fun n => (after_text hta n).2
      clear hta hat
      by_cases hlt : k < x.size
      · have d0 : decide ((k : Int) < (x.size : Int)) = true := decide_eq_true (by omega)
        go_wp2_with fail
        refine wp_region_after (by kernel_rfl) (by kernel_rfl) ?_
        repeat (any_goals (go_big_quiet_step (fail)))
        refine wpQuiet_nil ?_
        rintro w' ⟨n1, rfl⟩
        have HT1 := Lib.hid (HT.out.keep n1.below)
        clear cc0 cc1
        generalize n1.W = w3 at *
        have cc0 : ∀ n : After w3, n.W.cell? ⟨p, 0, none⟩ = some (.string x) := fun n => (after_text HT1.out n).1
        have cc1 : ∀ n : After w3, n.W.cell? ⟨p, 1, none⟩ = some (.int .i64 (k : Int)) := fun n => (after_text HT1.out n).2
        have i0 : (0 : Int) ≤ (k : Int) := by omega
        have i1 : (k : Int) < (x.size : Int) := by omega
        go_wp2_with fail
        refine wp_region_after (by kernel_rfl) (by kernel_rfl) ?_
        repeat (any_goals (go_big_quiet_step (fail)))
        refine wpQuiet_nil ?_
        rintro w' ⟨n2, rfl⟩
        have HT2 := Lib.hid (HT1.out.keep n2.below)
        clear cc0 cc1
        generalize n2.W = w4 at *
        have hbc : (B x)[k]? = some (x[k]'hlt) := B_at x k hlt
        have HBC := Lib.hid hbc
        have HOK := Lib.hid (LexOk.mk hxs hkx HO.out.st (HO.out.lax.lex HL0.out HT2.out.but) : LexOk w4 x ⟨k, mo, fo, st⟩)
        have HMK := Lib.hid (marked_any p x ⟨k, mo, fo, st⟩ k w4 HT2.out.lex HOK.out)
        simp only at HMK
        obtain ⟨k0, k1, _⟩ := HT2.out.lex.cells
        clear hbc
        by_cases hex : x[k] = 60 ∧ a < k ∧ markedX (B x) fo k = true
        · obtain ⟨h60, hka, hmb⟩ := hex
          have d1 : ((x[k].toNat : Int) == 60) = true := by rw [h60]; rfl
          have d2 : decide ((k : Int) > (a : Int)) = true := decide_eq_true (by omega)
          have HM60 := Lib.hid h60
          have HMB := Lib.hid hmb
          rw [hmb] at HMK
          clear hmb h60
          go_wp2_with fail
          refine HMK.out.mono ?_
          rintro e w5 ⟨rfl, b5⟩
          have HT5 := Lib.hid (HT2.out.keep b5)
          clear b5
          go_wp2_with fail
          go_meet
          have hge := gath_mark HG.out (by rw [HBC.out, HM60.out]) hka HMB.out
          exact ⟨l, by rw [hge]; exact HT5.out, by rw [hge]⟩
        have HEX := Lib.hid hex
        clear hex
        go_upto_region 5 with (fail)
        go_cut [5, 49] (fun s5 s49 wx => s5 = .int .u8 (x[k].toNat : Int) ∧ s49 = .bool false ∧ TextAt w wx p x ⟨a, mo, fo, st⟩ k (w.heap.size + 1) l)
        case first =>
          by_cases h60 : x[k] = 60
          · have d1 : ((x[k].toNat : Int) == 60) = true := by rw [h60]; rfl
            have HM60 := Lib.hid h60
            by_cases hka : a < k
            · have d2 : decide ((k : Int) > (a : Int)) = true := decide_eq_true (by omega)
              have hmb : markedX (B x) fo k = false := by
                cases hm : markedX (B x) fo k with
                | false => rfl
                | true => exact absurd ⟨h60, hka, hm⟩ HEX.out
              rw [hmb] at HMK
              clear hmb h60
              go_wp2_with fail
              refine HMK.out.mono ?_
              rintro e w5 ⟨rfl, b5⟩
              have HT5 := Lib.hid (HT2.out.keep b5)
              clear b5
              go_wp2_with fail
              go_meet
              exact ⟨by first | rfl | (rw [HM60.out]; rfl), rfl, HT5.out⟩
            · have d2 : decide ((k : Int) > (a : Int)) = false := decide_eq_false (by omega)
              have d3 : ¬ a < k := hka
              clear h60 hka
              go_wp2_with fail
              go_meet
              exact ⟨by first | rfl | (rw [HM60.out]; rfl), rfl, HT2.out⟩
          · have d1 : ((x[k].toNat : Int) == 60) = false := by
              rw [beq_eq_false_iff_ne]
              exact fun e => h60 (UInt8.toNat_inj.1 (by show _ = 60; omega))
            clear h60
            go_wp2_with fail
            go_meet
            exact ⟨rfl, rfl, HT2.out⟩
        case rest =>
          obtain ⟨rfl, rfl, hT3⟩ := hcut
          have HT3 := Lib.hid hT3
          have hm3 : x[k] = 60 → k = a ∨ markedX (B x) fo k = false := fun e => by
            cases hm : markedX (B x) fo k with
            | false => exact .inr rfl
            | true => exact .inl (by have := HG.out.1; rcases Nat.lt_or_ge a k with h | h; exact absurd ⟨e, h, hm⟩ HEX.out; omega)
          have HM3 := Lib.hid hm3
          clear hT3 hm3 HMK HOK HEX k0 k1
          have hsz := HG.out.size
          rw [← size_B] at hsz
          by_cases h38 : x[k] = 38
          · have d1 : ((x[k].toNat : Int) == 38) = true := by rw [h38]; rfl
            have hbc : (B x)[k]? = some 38 := by rw [HBC.out, h38]
            have hga := gath_amp HG.out hbc
            have hrf := readR_at false (B x) k (by rw [List.head?_drop]; exact hbc)
            have hgl := hga.size
            have hgm := hga.2.1
            rw [← size_B] at hgl hgm
            have hrb := ref_bd (lt_of_at hbc)
            have HRD := Lib.hid (fun W => read_any x W false hxs (k : Int))
            rw [hrf] at HRD
            generalize refS false ((B x).drop k) = rr at *
            obtain ⟨rt, rn⟩ := rr
            simp only [valR] at HRD
            simp only at hga hgl hgm hrb
            rw [List.length_append] at hgl
            have HGA := Lib.hid hga
            have cc0 : ∀ n : After wc, n.W.cell? ⟨p, 0, none⟩ = some (.string x) := fun n => (after_text HT3.out n).1
            have cc1 : ∀ n : After wc, n.W.cell? ⟨p, 1, none⟩ = some (.int .i64 (k : Int)) := fun n => (after_text HT3.out n).2
            clear hga hrf h38 hbc
            go_wp2_with fail
            refine wp_region_after (by kernel_rfl) (by kernel_rfl) ?_
            repeat (any_goals (go_big_quiet_step ((go_at_call 62; with_reducible exact call_after (HRD.out _)))))
            refine wpQuiet_nil ?_
            rintro w' ⟨n3, rfl⟩
            have HT4 := Lib.hid (HT3.out.keep n3.below)
            clear cc0 cc1
            generalize n3.W = w6 at *
            have HWR := Lib.hid (write_any (w.heap.size + 1) (w.heap.size + 1) l (S rt) w6 HT4.out.bld (by rw [size_S]; omega) HT4.out.size)
            go_wp2_with fail
            refine HWR.out.mono ?_
            rintro e w7 ⟨rfl, hb7, b7⟩
            have HT5 := Lib.hid (HT4.out.write hb7 b7)
            obtain ⟨k0, k1, _, _, _, f1, _⟩ := HT5.out.lex.cells
            clear hb7 b7
            go_wp2_with fail
            have hTG := HT5.out.goto (k + rn)
            rw [Int.natCast_add, B_S] at hTG
            refine ⟨⟨k + rn, l ++ rt, hTG, HGA.out⟩, ?_⟩
            rw [hTG.lex.atOf]
            show x.size - (k + rn) < x.size - k
            omega
          · have d1 : ((x[k].toNat : Int) == 38) = false := by
              rw [beq_eq_false_iff_ne]
              exact fun e => h38 (UInt8.toNat_inj.1 (by show _ = 38; omega))
            obtain ⟨hga, hj1, hj2⟩ := gath_plain HG.out HBC.out h38 HM3.out
            have hgl := hga.size
            rw [← size_B] at hgl hj2
            have HU := Lib.hid (fun W => until_any x ((k : Int) + 1) ⟨#[60, 38]⟩ W (by omega))
            rw [show (k : Int) + 1 = ((k + 1 : Nat) : Int) by omega, clampN_nat (k + 1) x.size (by omega), show B ⟨#[60, 38]⟩ = [60, 38] from rfl] at HU
            generalize untilL (B x) [60, 38] (k + 1) = j at *
            rw [show ((k + 1 : Nat) : Int) = (k : Int) + 1 by omega] at HU
            rw [List.length_append] at hgl
            have HGA := Lib.hid hga
            have w1 : IntKind.i64.wrap ((k : Int) + 1) = (k : Int) + 1 := IntWalk.i64_in _ (by omega)
            have cc0 : ∀ n : After wc, n.W.cell? ⟨p, 0, none⟩ = some (.string x) := fun n => (after_text HT3.out n).1
            have cc1 : ∀ n : After wc, n.W.cell? ⟨p, 1, none⟩ = some (.int .i64 (k : Int)) := fun n => (after_text HT3.out n).2
            clear hga h38
            go_wp2_with fail
            refine wp_region_after (by kernel_rfl) (by kernel_rfl) ?_
            repeat (any_goals (go_big_quiet_step ((go_at_call 75; with_reducible exact call_same (HU.out _)))))
            refine wpQuiet_nil ?_
            rintro w' ⟨n3, rfl⟩
            have HT4 := Lib.hid (HT3.out.keep n3.below)
            clear cc0 cc1
            generalize n3.W = w6 at *
            have hKS : ∀ W, Below (w.heap.size + 1) w6 W → (W.cell? ⟨p, 0, none⟩ = some (.string x) ∧ W.cell? ⟨p, 1, none⟩ = some (.int .i64 (k : Int))) := fun W hW => by
              have h := Blk.below HT4.out.lex hW (by have := HT4.out.base; omega)
              exact ⟨Blk.cell h 0, Blk.cell h 1⟩
            have KS := Lib.hid hKS
            have s0 : (k : Int) ≤ (j : Int) := by omega
            have s1 : (j : Int) ≤ (x.size : Int) := by omega
            have HWR := Lib.hid (fun W (hW : TextAt w W p x ⟨a, mo, fo, st⟩ k (w.heap.size + 1) l) => write_any (w.heap.size + 1) (w.heap.size + 1) l (x.extract k j) W hW.bld (by have := size_extract_le x k j; omega) hW.size)
            have HTD := Lib.hid (HT4.out.keep (made_drew w6))
            have HBD := Lib.hid ((made_drew w6).mono HT4.out.size)
            clear hKS
            go_wp2_with fail
            go_region_held3 (fun W => W.cell? ⟨p, 0, none⟩ = some (.string x) ∧ W.cell? ⟨p, 1, none⟩ = some (.int .i64 (k : Int)))
              (exact KS.out _ HBD.out)
              ((go_at_call 61
                refine (HWR.out _ HTD.out).mono ?_
                rintro e w7 ⟨rfl, hb7, b7⟩
                have HBD := Lib.hid (HBD.out.trans b7)
                have HT5 := Lib.hid (HTD.out.write hb7 b7)
                obtain ⟨k0, k1, _, _, _, f1, _⟩ := HT5.out.lex.cells
                clear hb7 b7))
            go_wp2_with fail
            have hTG := HT5.out.goto j
            rw [B_piece, show ((B x).drop k).take (j - k) = pieceL (B x) k j from rfl] at hTG
            refine ⟨⟨j, _, hTG, HGA.out⟩, ?_⟩
            rw [hTG.lex.atOf]
            show x.size - j < x.size - k
            omega
      · have d0 : decide ((k : Int) < (x.size : Int)) = false := decide_eq_false (by omega)
        go_wp2_with fail
        refine wp_region_after (by kernel_rfl) (by kernel_rfl) ?_
        repeat (any_goals (go_big_quiet_step (fail)))
        refine wpQuiet_nil ?_
        rintro w' ⟨n1, rfl⟩
        have HT1 := Lib.hid (HT.out.keep n1.below)
        clear cc0 cc1
        go_wp2_with fail
        go_meet
        have hge := gath_end HG.out (by rw [← size_B]; omega)
        exact ⟨l, by rw [hge]; exact HT1.out, by rw [hge]⟩
  case rest =>
    obtain ⟨l, hT, hl⟩ := hcut
    have HT := Lib.hid hT
    have HL := Lib.hid hl
    have HBS := Lib.hid (bstring_any (w.heap.size + 1) (w.heap.size + 1) l wc hT.bld hT.size)
    clear hT hl
    go_wp2_with fail
    refine HBS.out.mono ?_
    rintro e w5 ⟨rfl, b5⟩
    have hres := HT.out.res.below b5 (Nat.lt_succ_self _)
    have hlex := Blk.below HT.out.lex b5 (Nat.lt_succ_of_lt hplt)
    have hbut := HT.out.but.trans (but_above b5) (fun k hk => .inr (by omega))
    obtain ⟨_, _, _, _, _, y0, y1, y2, y3, y4⟩ := cells_tokG hres
    have hz5 := (set5_tokG hres (RowA.nil w5 0) (.int .i64 4) (.string ⟨#[]⟩) (.slice none 0 0) (.bool false) (.string (S l))).1
    have hlex5 := set5_lexT hlex (b := w.heap.size) (by omega) (.int .i64 4) (.string ⟨#[]⟩) (.slice none 0 0) (.bool false) (.string (S l))
    have hbut5 := set5_butT hbut (b := w.heap.size) (Nat.le_refl _) (.int .i64 4) (.string ⟨#[]⟩) (.slice none 0 0) (.bool false) (.string (S l))
    have HZ5 := Lib.hid hz5
    have HL5 := Lib.hid hlex5
    have HB5 := Lib.hid hbut5
    clear b5 hres hlex hbut hz5 hlex5 hbut5
    go_wp2_with fail
    refine bodyPost_ret (v := .agg #[.int .i64 4, .string ⟨#[]⟩, .slice none 0 0, .bool false, .string (S l)]) (results_cell_row (fn := Tryz.f43) (p := 2) rfl _ _ w.heap.size _ #[.int .i64 4, .string ⟨#[]⟩, .slice none 0 0, .bool false, .string (S l)] (0, 0) _ (by rfl) HZ5.out Tryz.underlying44 (by rfl) (by kernel_rfl)) rfl ?_
    exact ⟨by rw [HL.out]; rfl, HL5.out, HB5.out⟩
end Go.Proofs.YtdjeajbinpgpiaaGreat

namespace Go.Proofs.YtdjeajbinpgpiaaGreat
open Go.RowKit Go.BigFrame

/-- The reference's lexer where it lies. -/
def RefAt (w : World) (p : Nat) (x : ByteArray) (s : Lx) : Prop := Blk w p 40 #[.string x, .int .i64 (s.at_ : Int), .int .i64 s.mode, .string s.st, .bool s.fo] (0, 0)
theorem RefAt.cells {w : World} {p : Nat} {x : ByteArray} {s : Lx} (h : RefAt w p x s) :
    w.cell? ⟨p, 0, none⟩ = some (.string x) ∧ w.cell? ⟨p, 1, none⟩ = some (.int .i64 (s.at_ : Int)) ∧ w.cell? ⟨p, 2, none⟩ = some (.int .i64 s.mode) ∧ w.cell? ⟨p, 3, none⟩ = some (.string s.st) ∧ w.cell? ⟨p, 4, none⟩ = some (.bool s.fo) ∧
    w.frozen? ⟨p, 1, none⟩ = false ∧ w.frozen? ⟨p, 2, none⟩ = false ∧ w.frozen? ⟨p, 3, none⟩ = false ∧ w.frozen? ⟨p, 4, none⟩ = false :=
  ⟨Blk.cell h 0, Blk.cell h 1, Blk.cell h 2, Blk.cell h 3, Blk.cell h 4, Blk.frozen h 1 (.inr (Nat.zero_le _)), Blk.frozen h 2 (.inr (Nat.zero_le _)), Blk.frozen h 3 (.inr (Nat.zero_le _)), Blk.frozen h 4 (.inr (Nat.zero_le _))⟩
theorem RefAt.keep {w w1 : World} {p : Nat} {x : ByteArray} {s : Lx} (h : RefAt w p x s) (hb : Below w.heap.size w w1) : RefAt w1 p x s := Blk.keep h hb
theorem RefAt.goto {w : World} {p : Nat} {x : ByteArray} {s : Lx} (h : RefAt w p x s) (k : Nat) : RefAt (w.setCell ⟨p, 1, none⟩ (.int .i64 (k : Int))) p x { s with at_ := k } := Blk.set h 1 (.int .i64 (k : Int))
theorem RefAt.moded {w : World} {p : Nat} {x : ByteArray} {s : Lx} (h : RefAt w p x s) (m : Int) : RefAt (w.setCell ⟨p, 2, none⟩ (.int .i64 m)) p x { s with mode := m } := Blk.set h 2 (.int .i64 m)
theorem RefAt.named {w : World} {p : Nat} {x : ByteArray} {s : Lx} (h : RefAt w p x s) (nm : ByteArray) : RefAt (w.setCell ⟨p, 3, none⟩ (.string nm)) p x { s with st := nm } := Blk.set h 3 (.string nm)
theorem RefAt.foreign {w : World} {p : Nat} {x : ByteArray} {s : Lx} (h : RefAt w p x s) (f : Bool) : RefAt (w.setCell ⟨p, 4, none⟩ (.bool f)) p x { s with fo := f } := Blk.set h 4 (.bool f)
theorem RefAt.atOf {w : World} {p : Nat} {x : ByteArray} {s : Lx} (h : RefAt w p x s) : atOf w p = s.at_ := by
  unfold Proofs.YtdjeajbinpgpiaaGreat.atOf
  rw [h.cells.2.1]
  exact Int.toNat_natCast _
/-- A step of the reference's text: one sign. -/
theorem gath_one {x : List UInt8} {fo : Bool} {a k : Nat} {l : List UInt8} {c : UInt8} (h : Gath x fo a k l) (hc : x[k]? = some c) (h38 : c ≠ 38) (hm : c = 60 → k = a ∨ markedX x fo k = false) : Gath x fo a (k + 1) (l ++ [c]) := by
  have hlt := lt_of_at hc
  obtain ⟨h1, h2, h3⟩ := h
  refine ⟨by omega, by omega, ?_⟩
  have hno : ¬ (c == 60 && (!decide (k = a) && markedX x fo k)) = true := by
    intro e
    rw [Bool.and_eq_true, Bool.and_eq_true] at e
    rcases hm (beq_iff_eq.1 e.1) with h4 | h4
    · rw [decide_eq_true h4] at e; exact absurd e.2.1 (by decide)
    · rw [h4] at e; exact absurd e.2.2 (by decide)
  rw [h3, textX_step x fo k _ h2, hc]
  simp only
  rw [if_neg hno, if_neg h38, decide_eq_false (show ¬ k + 1 = a by omega), List.append_assoc]
  rfl
set_option maxHeartbeats 1000000 in
theorem rfnew_any (x : ByteArray) (w : World) :
    Calls Tryz.prog 11 #[.string x] w fun e w' => e = .returned (.pointer (some ⟨w.heap.size, 0, none⟩)) ∧ RefAt w' w.heap.size x startL ∧ Below w.heap.size w w' := by
  go_enter Tryz.func11, Tryz.ntmps11
  go_wp2_with fail
  go_ret
  exact ⟨rfl, Blk.new w _ _ _, (Below.refl _ _).alloc (Nat.le_refl _) _⟩
set_option maxHeartbeats 1000000 in
theorem rfset_any (p : Nat) (x : ByteArray) (s : Lx) (m : Int) (w : World) (h : RefAt w p x s) :
    Calls Tryz.prog 13 #[.pointer (some ⟨p, 0, none⟩), .int .i64 m] w fun e w' => (∃ v, e = .returned v) ∧ RefAt w' p x (setL s m) ∧ But (fun k => k = p) w w' := by
  have h1 := h.moded m
  have hb1 : But (fun k => k = p) w (w.setCell ⟨p, 2, none⟩ (.int .i64 m)) := (But.refl (fun k => k = p) w).setCell ⟨p, 2, none⟩ _ (.inl rfl)
  obtain ⟨k0, k1, k2, k3, k4, f1, f2, f3, f4⟩ := h.cells
  obtain ⟨_, _, _, _, _, _, g2, _, _⟩ := h1.cells
  by_cases hm : m < 1 ∨ 4 < m
  · have HC := Lib.hid (show RefAt ((w.setCell ⟨p, 2, none⟩ (.int .i64 m)).setCell ⟨p, 2, none⟩ (.int .i64 1)) p x (setL s m) ∧ But (fun k => k = p) w ((w.setCell ⟨p, 2, none⟩ (.int .i64 m)).setCell ⟨p, 2, none⟩ (.int .i64 1)) from by
      refine ⟨?_, hb1.setCell _ _ (.inl rfl)⟩
      have := h1.moded 1
      unfold setL
      rw [if_pos hm]
      exact this)
    have hcase : (decide (m < 1) = true ∧ m < 1) ∨ (decide (m < 1) = false ∧ decide (m > 4) = true ∧ ¬ m < 1 ∧ 4 < m) := by
      by_cases e1 : m < 1
      · exact .inl ⟨decide_eq_true e1, e1⟩
      · exact .inr ⟨decide_eq_false e1, decide_eq_true (by omega), e1, by omega⟩
    clear h h1 hb1 hm
    rcases hcase with ⟨d1, g1⟩ | ⟨d1, d2, g1, g3⟩
    all_goals
      go_enter Tryz.func13, Tryz.ntmps13
      go_wp2_with fail
      refine bodyPost_end (results_none rfl _ _ _) rfl ?_
      exact ⟨⟨_, rfl⟩, HC.out⟩
  · have HC := Lib.hid (show RefAt (w.setCell ⟨p, 2, none⟩ (.int .i64 m)) p x (setL s m) ∧ But (fun k => k = p) w (w.setCell ⟨p, 2, none⟩ (.int .i64 m)) from by
      refine ⟨?_, hb1⟩
      unfold setL
      rw [if_neg hm]
      exact h1)
    have d1 : decide (m < 1) = false := decide_eq_false (by omega)
    have d2 : decide (m > 4) = false := decide_eq_false (by omega)
    have g1 : ¬ m < 1 := by omega
    have g3 : ¬ 4 < m := by omega
    clear h h1 hb1 hm
    go_enter Tryz.func13, Tryz.ntmps13
    go_wp2_with fail
    refine bodyPost_end (results_none rfl _ _ _) rfl ?_
    exact ⟨⟨_, rfl⟩, HC.out⟩
end Go.Proofs.YtdjeajbinpgpiaaGreat
