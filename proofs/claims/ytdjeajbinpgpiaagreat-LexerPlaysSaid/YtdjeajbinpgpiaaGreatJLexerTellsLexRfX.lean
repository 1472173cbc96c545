/- The reference's lexer: text. -/
import Derived.Test.YtdjeajbinpgpiaaGreatJLexerTellsLexRfT
import Derived.Test.YtdjeajbinpgpiaaGreatJLexerTellsAllR
namespace Go.Proofs.YtdjeajbinpgpiaaGreat
open Go.RowKit Go.BigFrame

structure RTextAt (w0 w : World) (p : Nat) (x : ByteArray) (s : Lx) (k : Nat) (l : List UInt8) : Prop where
  lex : RefAt w p x { s with at_ := k }
  tok : Blk w (w0.heap.size + 1) 44 #[.int .i64 4, .string ⟨#[]⟩, .slice none 0 0, .bool false, .string (S l)] (0, 0)
  but : But (fun j => j = p) w0 w
  base : p < w0.heap.size
  size : w0.heap.size + 2 ≤ w.heap.size
  res : Blk w w0.heap.size 44 #[.int .i64 0, .string ⟨#[]⟩, .slice none 0 0, .bool false, .string ⟨#[]⟩] (0, 0)
theorem RTextAt.keep {w0 w w2 : World} {p : Nat} {x : ByteArray} {s : Lx} {k : Nat} {l : List UInt8} (h : RTextAt w0 w p x s k l) (hb : Below w.heap.size w w2) : RTextAt w0 w2 p x s k l :=
  ⟨h.lex.keep hb, h.tok.keep hb, h.but.trans (S1 := fun _ => False) (But.of_below hb) (fun _ h => h.elim), h.base, Nat.le_trans h.size hb.size, h.res.keep hb⟩
theorem RTextAt.goto {w0 w : World} {p : Nat} {x : ByteArray} {s : Lx} {k : Nat} {l : List UInt8} (h : RTextAt w0 w p x s k l) (j : Nat) : RTextAt w0 (w.setCell ⟨p, 1, none⟩ (.int .i64 (j : Int))) p x s j l :=
  ⟨h.lex.goto j, h.tok.far (by have := h.base; show w0.heap.size + 1 ≠ p; omega) _, h.but.setCell _ _ (.inl rfl), h.base, by rw [World.size_setCell]; exact h.size, h.res.far (by have := h.base; show w0.heap.size ≠ p; omega) _⟩
theorem RTextAt.write {w0 w : World} {p : Nat} {x : ByteArray} {s : Lx} {k : Nat} {l : List UInt8} (h : RTextAt w0 w p x s k l) (l2 : List UInt8) : RTextAt w0 (w.setCell ⟨w0.heap.size + 1, 4, none⟩ (.string (S l2))) p x s k l2 :=
  ⟨Blk.far h.lex (by have := h.base; show p ≠ w0.heap.size + 1; omega) _, h.tok.set 4 (.string (S l2)), h.but.setCell _ _ (.inr (Nat.le_succ _)), h.base, by rw [World.size_setCell]; exact h.size, h.res.far (by show w0.heap.size ≠ w0.heap.size + 1; omega) _⟩
theorem after_rtext {w0 w : World} {p : Nat} {x : ByteArray} {s : Lx} {k : Nat} {l : List UInt8} (h : RTextAt w0 w p x s k l) (n : After w) : n.W.cell? ⟨p, 0, none⟩ = some (.string x) ∧ n.W.cell? ⟨p, 1, none⟩ = some (.int .i64 (k : Int)) :=
  ⟨(h.lex.keep n.below).cells.1, (h.lex.keep n.below).cells.2.1⟩
theorem piece_oneX (x : ByteArray) (k : Nat) (h : k < x.size) : x.extract k (k + 1) = S [x[k]] := by
  apply B_inj
  rw [B_S, B_piece, drop_at x k h, show k + 1 - k = 1 by omega]
  rfl
set_option maxHeartbeats 8000000 in
set_option maxRecDepth 100000 in
theorem rftext_any (p : Nat) (x : ByteArray) (s : Lx) (w : World) (h : RefAt w p x s) (hxs : x.size ≤ 65536) (hal : s.at_ ≤ x.size) :
    Calls Tryz.prog 30 #[.pointer (some ⟨p, 0, none⟩)] w (RefTo w p x (txtT (textX (B x) s.fo s.at_ true).1) { s with at_ := (textX (B x) s.fo s.at_ true).2 }) := by
  have hplt : p < w.heap.size := Blk.lt h
  obtain ⟨a, mo, fo, st⟩ := s
  simp only at *
  have hT0 : RTextAt w ((w.alloc (.cells #[.int .i64 0, .string ⟨#[]⟩, .slice none 0 0, .bool false, .string ⟨#[]⟩] 44)).alloc (.cells #[.int .i64 4, .string ⟨#[]⟩, .slice none 0 0, .bool false, .string ⟨#[]⟩] 44)) p x ⟨a, mo, fo, st⟩ a [] := by
    have hb : Below w.heap.size w ((w.alloc (.cells #[.int .i64 0, .string ⟨#[]⟩, .slice none 0 0, .bool false, .string ⟨#[]⟩] 44)).alloc (.cells #[.int .i64 4, .string ⟨#[]⟩, .slice none 0 0, .bool false, .string ⟨#[]⟩] 44)) := made_alloc (below_tokG w _) _
    have hn := Blk.new (w.alloc (.cells #[.int .i64 0, .string ⟨#[]⟩, .slice none 0 0, .bool false, .string ⟨#[]⟩] 44)) 44 #[.int .i64 4, .string ⟨#[]⟩, .slice none 0 0, .bool false, .string ⟨#[]⟩] (0, 0)
    rw [show (w.alloc (.cells #[.int .i64 0, .string ⟨#[]⟩, .slice none 0 0, .bool false, .string ⟨#[]⟩] 44)).heap.size = w.heap.size + 1 by simp] at hn
    exact ⟨h.keep hb, hn, But.of_below hb, hplt, by simp, (Blk.new w _ _ _).alloc _⟩
  obtain ⟨w1, hw1⟩ : ∃ w1, w1 = (w.alloc (.cells #[.int .i64 0, .string ⟨#[]⟩, .slice none 0 0, .bool false, .string ⟨#[]⟩] 44)).alloc (.cells #[.int .i64 4, .string ⟨#[]⟩, .slice none 0 0, .bool false, .string ⟨#[]⟩] 44) := ⟨_, rfl⟩
  have HW1 := Lib.hid hw1.symm
  rw [← hw1] at hT0
  have HT0 := Lib.hid hT0
  have HG0 := Lib.hid (gath_start (B x) fo a (by rw [← size_B]; exact hal))
  clear h hT0 hw1
  go_enter Tryz.func30, Tryz.ntmps30
  go_upto_block 0 with (fail)
  rw [HW1.out]
  go_cut [] (fun wx => ∃ l, RTextAt w wx p x ⟨a, mo, fo, st⟩ (textX (B x) fo a true).2 l ∧ (textX (B x) fo a true).1 = l)
  case first =>
    go_wp2_with fail
    go_loopw [4] (fun s4 wr => ∃ (k : Nat) (l : List UInt8), s4 = .bool (decide (k = a)) ∧ RTextAt w wr p x ⟨a, mo, fo, st⟩ k l ∧ Hid (Gath (B x) fo a k l)) (fun _ wr => x.size - atOf wr p)
    case atStart => exact ⟨a, [], by rw [decide_eq_true rfl], HT0.out, HG0.out⟩
    case round =>
      obtain ⟨k, l, rfl, hta, HG⟩ := hrel
      have HT := Lib.hid hta
      have hkx : k ≤ x.size := by have := HG.out.2.1; rw [size_B]; exact this
      have hat : atOf wr p = k := hta.lex.atOf
      rw [hat]
      have cc0 : ∀ n : After wr, n.W.cell? ⟨p, 0, none⟩ = some (.string x) := fun n => (after_rtext hta n).1
      have cc1 : ∀ n : After wr, n.W.cell? ⟨p, 1, none⟩ = some (.int .i64 (k : Int)) := fun n => (after_rtext hta n).2
      have HMK := Lib.hid (fun n : After wr => rfmarks_any p x ⟨k, mo, fo, st⟩ k n.W (hta.lex.keep n.below) hxs)
      simp only at HMK
      clear hta hat
      by_cases hlt : k < x.size
      · have d0 : decide ((k : Int) < (x.size : Int)) = true := decide_eq_true (by omega)
        have i0 : (0 : Int) ≤ (k : Int) := by omega
        have i1 : (k : Int) < (x.size : Int) := by omega
        have hbc : (B x)[k]? = some (x[k]'hlt) := B_at x k hlt
        have HBC := Lib.hid hbc
        obtain ⟨cb, hcb⟩ : ∃ cb, cb = !(decide (x[k]'hlt = 60) && (!decide (k = a) && markedX (B x) fo k)) := ⟨_, rfl⟩
        have HCB := Lib.hid hcb
        clear hbc hcb
        go_upto_region 3 with (fail)
        go_cut [4, 41] (fun s4 s41 wx => s41 = .bool cb ∧ RTextAt w wx p x ⟨a, mo, fo, st⟩ k l)
        case first =>
          by_cases hka : k = a
          · have dka : decide (k = a) = true := decide_eq_true hka
            have HC := Lib.hid (show cb = true by rw [HCB.out, dka]; simp)
            rw [dka]
            clear hka dka HCB HMK
            refine wp_region_after (by kernel_rfl) (by kernel_rfl) ?_
            repeat (any_goals (go_big_quiet_step (fail)))
            refine wpQuiet_nil ?_
            rintro w' ⟨n1, rfl⟩
            go_wp2_with fail
            go_meet
            exact ⟨by rw [HC.out], HT.out.keep n1.below⟩
          · have dka : decide (k = a) = false := decide_eq_false hka
            have HCB2 := Lib.hid (show cb = !(decide (x[k]'hlt = 60) && markedX (B x) fo k) by rw [HCB.out, dka]; simp)
            rw [dka]
            clear hka dka HCB
            by_cases h60 : x[k]'hlt = 60
            · have d1 : ((x[k].toNat : Int) != 60) = false := by rw [h60]; rfl
              have d2 : ((x[k].toNat : Int) == 60) = true := by rw [h60]; rfl
              have HC := Lib.hid (show cb = !markedX (B x) fo k by rw [HCB2.out, decide_eq_true h60]; simp)
              generalize markedX (B x) fo k = mb at *
              clear h60 HCB2
              cases mb
              all_goals
                refine wp_region_after (by kernel_rfl) (by kernel_rfl) ?_
                repeat (any_goals (go_big_quiet_step ((go_at_call 29; with_reducible exact call_after (HMK.out _)))))
                refine wpQuiet_nil ?_
                rintro w' ⟨n1, rfl⟩
                go_wp2_with fail
                go_meet
                exact ⟨by rw [HC.out]; rfl, HT.out.keep n1.below⟩
            · have d1 : ((x[k].toNat : Int) != 60) = true := by
                rw [bne_iff_ne]
                exact fun e => h60 (UInt8.toNat_inj.1 (by show _ = 60; omega))
              have HC := Lib.hid (show cb = true by rw [HCB2.out, decide_eq_false h60]; simp)
              clear h60 HCB2 HMK
              refine wp_region_after (by kernel_rfl) (by kernel_rfl) ?_
              repeat (any_goals (go_big_quiet_step (fail)))
              refine wpQuiet_nil ?_
              rintro w' ⟨n1, rfl⟩
              go_wp2_with fail
              go_meet
              exact ⟨by rw [HC.out], HT.out.keep n1.below⟩
        case rest =>
          obtain ⟨rfl, hT3⟩ := hcut
          have HT3 := Lib.hid hT3
          clear hT3 HMK HT cc0 cc1
          cases cb
          · have hz : x[k]'hlt = 60 ∧ a < k ∧ markedX (B x) fo k = true := by
              have h1 := HCB.out
              have h2 : (decide (x[k]'hlt = 60) && (!decide (k = a) && markedX (B x) fo k)) = true := by
                cases hv : (decide (x[k]'hlt = 60) && (!decide (k = a) && markedX (B x) fo k)) with
                | true => rfl
                | false => rw [hv] at h1; cases h1
              rw [Bool.and_eq_true, Bool.and_eq_true] at h2
              have h3 : ¬ k = a := by have := h2.2.1; simpa using this
              exact ⟨of_decide_eq_true h2.1, by have := HG.out.1; omega, h2.2.2⟩
            have HZ := Lib.hid hz
            clear hz
            go_wp2_with fail
            go_meet
            have hge := gath_mark HG.out (by rw [HBC.out, HZ.out.1]) HZ.out.2.1 HZ.out.2.2
            exact ⟨l, by rw [hge]; exact HT3.out, by rw [hge]⟩
          · have hm3 : x[k]'hlt = 60 → k = a ∨ markedX (B x) fo k = false := fun e => by
              have h1 := HCB.out
              rw [decide_eq_true e] at h1
              by_cases hka : k = a
              · exact .inl hka
              · rw [decide_eq_false hka] at h1
                cases hm : markedX (B x) fo k with
                | false => exact .inr rfl
                | true => rw [hm] at h1; cases h1
            have HM3 := Lib.hid hm3
            have cc0 : ∀ n : After wc, n.W.cell? ⟨p, 0, none⟩ = some (.string x) := fun n => (after_rtext HT3.out n).1
            have cc1 : ∀ n : After wc, n.W.cell? ⟨p, 1, none⟩ = some (.int .i64 (k : Int)) := fun n => (after_rtext HT3.out n).2
            clear hm3 HCB
            go_upto_region 5 with (fail)
            refine wp_region_after (by kernel_rfl) (by kernel_rfl) ?_
            repeat (any_goals (go_big_quiet_step (fail)))
            refine wpQuiet_nil ?_
            rintro w' ⟨n2, rfl⟩
            have HT4 := Lib.hid (HT3.out.keep n2.below)
            clear cc0 cc1 HT3
            generalize n2.W = w4 at *
            have hsz := HG.out.size
            rw [← size_B] at hsz
            by_cases h38 : x[k]'hlt = 38
            · have d1 : ((x[k].toNat : Int) == 38) = true := by rw [h38]; rfl
              have hbc : (B x)[k]? = some 38 := by rw [HBC.out, h38]
              have hga := gath_amp HG.out hbc
              have hrf := readR_at false (B x) k (by rw [List.head?_drop]; exact hbc)
              have hgl := hga.size
              have hgm := hga.2.1
              rw [← size_B] at hgl hgm
              have hrb := ref_bd (lt_of_at hbc)
              have HRD := Lib.hid (fun W => rfread_any x W false hxs (k : Int))
              rw [hrf] at HRD
              generalize refS false ((B x).drop k) = rr at *
              obtain ⟨rt, rn⟩ := rr
              simp only [valR] at HRD
              simp only at hga hgl hgm hrb
              rw [List.length_append] at hgl
              have HGA := Lib.hid hga
              have cc0 : ∀ n : After w4, n.W.cell? ⟨p, 0, none⟩ = some (.string x) := fun n => (after_rtext HT4.out n).1
              have cc1 : ∀ n : After w4, n.W.cell? ⟨p, 1, none⟩ = some (.int .i64 (k : Int)) := fun n => (after_rtext HT4.out n).2
              clear hga hrf h38 hbc
              go_wp2_with fail
              refine wp_region_after (by kernel_rfl) (by kernel_rfl) ?_
              repeat (any_goals (go_big_quiet_step ((go_at_call 47; with_reducible exact call_after (HRD.out _)))))
              refine wpQuiet_nil ?_
              rintro w' ⟨n3, rfl⟩
              have HT5 := Lib.hid (HT4.out.keep n3.below)
              clear cc0 cc1 HT4
              generalize n3.W = w6 at *
              have hT6 := HT5.out.write (l ++ rt)
              have happ : S (l ++ rt) = S l ++ S rt := (S_app l rt).symm
              rw [happ] at hT6
              have hadd : (S l).size + (S rt).size ≤ 9223372036854775807 := by rw [size_S, size_S]; omega
              obtain ⟨_, _, _, _, t4, _, _, _, _, g4⟩ := cells_tokG HT5.out.tok
              obtain ⟨_, _, _, _, _, f1, _⟩ := HT5.out.lex.cells
              obtain ⟨_, _, _, _, _, f1', _⟩ := hT6.lex.cells
              have hT7 := hT6.goto (k + rn)
              rw [Int.natCast_add] at hT7
              have HT7 := Lib.hid hT7
              clear hT6 hT7 happ
              go_wp2_with fail
              refine ⟨⟨k + rn, l ++ rt, by rw [decide_eq_false (by have := HG.out.1; omega)], HT7.out, HGA.out⟩, ?_⟩
              rw [HT7.out.lex.atOf]
              show x.size - (k + rn) < x.size - k
              omega
            · have d1 : ((x[k].toNat : Int) == 38) = false := by
                rw [beq_eq_false_iff_ne]
                exact fun e => h38 (UInt8.toNat_inj.1 (by show _ = 38; omega))
              have hga := gath_one HG.out HBC.out h38 HM3.out
              have hgl := hga.size
              rw [← size_B, List.length_append] at hgl
              have HGA := Lib.hid hga
              obtain ⟨px, hpx⟩ : ∃ q, x.extract k (k + 1) = q := ⟨_, rfl⟩
              have hpp := piece_oneX x k hlt
              rw [hpx] at hpp
              have hT6 := HT4.out.write (l ++ [x[k]'hlt])
              rw [show S (l ++ [x[k]'hlt]) = S l ++ px by rw [hpp, S_app]] at hT6
              have hadd : (S l).size + px.size ≤ 9223372036854775807 := by rw [size_S, hpp, size_S]; exact Nat.le_trans hgl (by omega)
              obtain ⟨_, _, _, _, t4, _, _, _, _, g4⟩ := cells_tokG (HT4.out.keep (made_drew w4)).tok
              obtain ⟨k0, k1, _, _, _, _, _⟩ := (HT4.out.keep (made_drew w4)).lex.cells
              obtain ⟨_, q1, _, _, _, f1', _⟩ := hT6.lex.cells
              have hT7 := (hT6.goto (k + 1)).keep (made_drew _)
              rw [show ((k + 1 : Nat) : Int) = (k : Int) + 1 by omega] at hT7
              have HT7 := Lib.hid hT7
              have w1 : IntKind.i64.wrap ((k : Int) + 1) = (k : Int) + 1 := IntWalk.i64_in _ (by omega)
              have i2 : ((k : Int) + 1).toNat = k + 1 := by omega
              have s0 : (k : Int) ≤ (k : Int) + 1 := by omega
              have s1 : (k : Int) + 1 ≤ (x.size : Int) := by omega
              clear hga h38 hpp hT6 hgl hT7
              go_upto_region 9 with (fail)
              go_region_with (fail)
              all_goals
                go_wp2_with fail
                refine ⟨⟨k + 1, l ++ [x[k]'hlt], by rw [decide_eq_false (by have := HG.out.1; omega)], HT7.out, HGA.out⟩, ?_⟩
                rw [HT7.out.lex.atOf]
                show x.size - (k + 1) < x.size - k
                omega
      · have d0 : decide ((k : Int) < (x.size : Int)) = false := decide_eq_false (by omega)
        clear HMK
        go_wp2_with fail
        refine wp_region_after (by kernel_rfl) (by kernel_rfl) ?_
        repeat (any_goals (go_big_quiet_step (fail)))
        refine wpQuiet_nil ?_
        rintro w' ⟨n1, rfl⟩
        have HT1 := Lib.hid (HT.out.keep n1.below)
        clear cc0 cc1
        go_wp2_with fail
        go_meet
        have hge := gath_end HG.out (by rw [← size_B]; omega)
        exact ⟨l, by rw [hge]; exact HT1.out, by rw [hge]⟩
  case rest =>
    obtain ⟨l, hT, hl⟩ := hcut
    have HL := Lib.hid hl
    have hR : ReafAt w wc p x ⟨(textX (B x) fo a true).2, mo, fo, st⟩ := ⟨hT.lex, hT.but, hT.base, by have := hT.size; omega, hT.res⟩
    obtain ⟨hz, hto⟩ := hR.out (RowA.nil _ 0) 4 ⟨#[]⟩ false (S l)
    obtain ⟨_, _, _, _, _, y0, y1, y2, y3, y4⟩ := cells_tokG hT.res
    obtain ⟨t0, t1, t2, t3, t4, _⟩ := cells_tokG hT.tok
    have HZ := Lib.hid hz
    have HTO := Lib.hid hto
    clear hz hto hT hl hR
    go_wp2_with fail
    refine bodyPost_ret (v := .agg #[.int .i64 4, .string ⟨#[]⟩, .slice none 0 0, .bool false, .string (S l)]) (results_cell_row (fn := Tryz.f30) (p := 2) rfl _ _ w.heap.size _ #[.int .i64 4, .string ⟨#[]⟩, .slice none 0 0, .bool false, .string (S l)] (0, 0) _ (by rfl) HZ.out Tryz.underlying44 (by rfl) (by kernel_rfl)) rfl ?_
    rw [HL.out]
    exact HTO.out
end Go.Proofs.YtdjeajbinpgpiaaGreat
