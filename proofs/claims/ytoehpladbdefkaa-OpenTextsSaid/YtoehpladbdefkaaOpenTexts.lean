/- OpenTexts, walked. -/
import Derived.Test.YtoehpladbdefkaaOpenTextsL
import Derived.Test.YtoehpladbdefkaaOpenImplies
namespace Go.Proofs.Ytoehpladbdefkaa
open Go.RowKit

theorem two_new (w : World) (o : Obj) (e : TypeId) (b : ByteArray) : ((w.alloc o).alloc (.cells #[.string b] e)).cell? ⟨w.heap.size + 1, 0, none⟩ = some (.string b) := by
  simp
theorem scopeY (B : Nat) (wb : World) (q : Nat) (L : List Ix) (kind : Int) (b : ByteArray) (bv : Bool) (h : LB_itex B wb q L) (hv : scopeB (L.map key_itex) kind [b] = bv) (W : World) (bl : Nat) (hW : Below wb.heap.size wb W) (hc : W.cell? ⟨bl, 0, none⟩ = some (.string b)) :
    Calls Try.prog 32 #[.pointer (some ⟨q, 0, none⟩), .int .i64 kind, .slice (some ⟨bl, 0, none⟩) 1 1] W fun e w' => e = .returned (.bool bv) ∧ Below W.heap.size W w' := by
  have hsc := scope_itex B W q L kind (some ⟨bl, 0, none⟩) 1 [b] (h.keep hW) ⟨rfl, fun u hu => by simp [strs] at hu; subst hu; rfl, fun _ => ⟨_, rfl, fun j u hu => by
    cases j with
    | zero => simp [strs] at hu; subst hu; rw [add0]; exact hc
    | succ j => simp [strs] at hu⟩⟩ (by simp)
  rw [hv] at hsc
  exact hsc
theorem scopeR (wb : World) (A : Option Addr) (n c : Nat) (L : List It) (kind : Int) (b : ByteArray) (bv : Bool) (h : RdI wb A n L) (hn : n ≤ 1000000) (hv : scopeB (L.map key_item) kind [b] = bv) (W : World) (bl : Nat) (hW : Below wb.heap.size wb W) (hc : W.cell? ⟨bl, 0, none⟩ = some (.string b)) :
    Calls Try.prog 33 #[.slice A n c, .int .i64 kind, .slice (some ⟨bl, 0, none⟩) 1 1] W fun e w' => e = .returned (.bool bv) ∧ Below W.heap.size W w' := by
  have hsc := scope18 W A n c L kind (some ⟨bl, 0, none⟩) 1 [b] (h.keep hW) ⟨rfl, fun u hu => by simp [strs] at hu; subst hu; rfl, fun _ => ⟨_, rfl, fun j u hu => by
    cases j with
    | zero => simp [strs] at hu; subst hu; rw [add0]; exact hc
    | succ j => simp [strs] at hu⟩⟩ (by simp) (by omega)
  rw [hv] at hsc
  exact hsc
def pB : ByteArray := ⟨#[112]⟩
set_option maxHeartbeats 4000000 in
set_option maxRecDepth 100000 in
theorem walk_OpenTexts (A : Option Addr) (c : Nat) (l : List As) (h : ByteArray) (hs : h.size ≤ 140737488351232) (w : World) (hr : Rd w A l.length 5 (l.flatMap enc_as)) (_hlc : l.length ≤ c) (_hcm : c ≤ maxLen) :
    Calls Try.prog 5 #[.slice A l.length c, .string h] w fun e w' => e = .returned (.bool true) ∧ Below w.heap.size w w' := by
  obtain ⟨i0, hi0, hz0, hz1, hz2⟩ := info_parts info_item
  have HR := Lib.hid hr
  have HSZ := Lib.hid hs
  clear hr hs
  go_enter Try.func5, Try.ntmps5
  go_wp2_with fail
  refine (newL_itex w.heap.size w (Nat.le_refl _)).mono ?_
  rintro e w1 ⟨q, rfl, h1, b1⟩
  have HM0 := Lib.hid (LX.new h1)
  have HB0 := Lib.hid b1
  clear h1 b1
  go_upto_block 0 with (fail)
  go_cut [6] (fun s6 wx => ∃ lr, LX w.heap.size wx q (toX h lr) s6 lr ∧ lr.length ≤ 20 ∧ Below w.heap.size w wx)
  case first =>
    go_wp2_with fail
    go_loopw [7, 6] (fun i mv wr => ∃ (j : Nat) (lr : List It), j ≤ l.length ∧ j ≤ 20 ∧ lr.length = j ∧ i = .int .i64 j ∧ LX w.heap.size wr q (toX h lr) mv lr ∧ Below w.heap.size w wr) (fun i _ _ => l.length - (intOf i).toNat)
    case atStart => exact ⟨0, [], Nat.zero_le _, by omega, rfl, rfl, HM0.out, HB0.out⟩
    case round =>
      obtain ⟨j, lr, hj, hj30, hlr, rfl, hlm, hbr⟩ := hrel
      have HLM := Lib.hid hlm
      have HB := Lib.hid hbr
      clear hlm hbr
      by_cases hlt : j < l.length ∧ j < 20
      · obtain ⟨hlt, h30⟩ := hlt
        have d0 : decide ((j : Int) < (l.length : Int)) = true := decide_eq_true (by omega)
        have d1 : decide ((j : Int) < 20) = true := decide_eq_true (by omega)
        obtain ⟨y, hy⟩ : ∃ y, l[j]? = some y := ⟨_, List.getElem?_eq_getElem hlt⟩
        obtain ⟨a1, rfl, hc1⟩ := (HR.out.keep HB.out).2.2 (by omega)
        obtain ⟨k0, k1, k2, k3, k4⟩ := cells_as hc1 hy
        have s1 : IntKind.i64.wrap ((j : Int) + 1) = (j : Int) + 1 := IntWalk.i64_in _ (by omega)
        have s2 : IntKind.i64.wrap (97 + (j : Int)) = 97 + (j : Int) := IntWalk.i64_in _ (by omega)
        have hlr1 : lr.length ≤ 20 := by omega
        have HLR := Lib.hid hlr
        clear hc1 hy hlr
        go_wp2_with fail
        refine (el_keep _ y).mono ?_
        rintro e w3 ⟨rfl, b3⟩
        generalize elI y = z at *
        have hb4 : Below wr.heap.size wr (w3.alloc (.cells (enc_item z).toArray 50)) := b3.alloc b3.size _
        have hX := Blk.new w3 50 (enc_item z).toArray (0, 0)
        obtain ⟨hvc, _⟩ := var_item hX
        have c0 := hvc 0 _ rfl; have c1 := hvc 1 _ rfl; have c2 := hvc 2 _ rfl; have c3 := hvc 3 _ rfl
        have HX := Lib.hid hX
        have HB4 := Lib.hid hb4
        have HB3 := Lib.hid b3
        unfold enc_item at c0 c1 c2 c3
        have q1 := conv_i32 j h30
        have q2 := conv_rune j
        have q3 : h.size + (encX j).size ≤ 9223372036854775807 := by have := HSZ.out; have := encX_size j h30; omega
        clear k0 k1 k2 k3 k4 hX hb4 b3 hvc
        obtain ⟨F, hF, hFb, hT⟩ := HLM.out.onList
        have HPU := Lib.hid (pushF_itex F _ q (toX h lr) (⟨h ++ encX j, z.ns, z.name, none, 0, 0⟩ : Ix) (hF.keep HB4.out) (by rw [toX_len]; omega))
        have HT := Lib.hid hT
        have HFb := Lib.hid hFb
        have hsn : toX h (lr ++ [z]) = toX h lr ++ [(⟨h ++ encX j, z.ns, z.name, none, 0, 0⟩ : Ix)] := by rw [toX_snoc, HLR.out]; rfl
        have HSN := Lib.hid hsn
        clear hF hFb hT hsn
        simp only [val_item]
        go_wp2_with fail
        refine HPU.out.mono ?_
        rintro e w5 ⟨rfl, hlf5, hbt5⟩
        have hbut : But F wr w5 := below_But HB4.out hbt5
        obtain ⟨hlm5, hb5⟩ := HT.out w5 _ _ (fun k hk => by rcases hk with h | h; exact .inl h; exact .inr (by have := HB4.out.size; omega)) hlf5 hbut
        obtain ⟨hvc, _⟩ := var_item (HX.out.but hbt5 (fun hf => by have := HFb.out _ hf; have := HB3.out.size; omega))
        have m0 := hvc 0 _ rfl; have m1 := hvc 1 _ rfl; have m2 := hvc 2 _ rfl; have m3 := hvc 3 _ rfl
        have hb6 : Below w5.heap.size w5 (w5.alloc (.cells (enc_item z).toArray 50)) := (Below.refl _ _).alloc (Nat.le_refl _) _
        have HLM6 := Lib.hid (hlm5.keep hb6)
        have HB6 := Lib.hid (below_then (HB.out.trans hb5) (HB.out.trans hb5).size hb6)
        have HRD := Lib.hid (rd_one_item (Blk.new w5 50 (enc_item z).toArray (0, 0)))
        clear hbut hlm5 hb5 hvc hbt5 hlf5 hb6 c0 c1 c2 c3 q1 q2 q3
        go_wp2_with (first
          | (at_builtin
             refine wpList_append_any _ rfl (.tmp 41) (.tmp 43) _ rfl w.heap.size 50 i0 _ 4 56 Try.underlying48 hi0 hz0 hz1 hz2 rfl (by omega) _ _ _ rfl HLM6.out.row (some ⟨w5.heap.size, 0, none⟩) 1 1 _ rfl HRD.out (by simp only [maxLen]; omega) (by omega) HLM6.out.le ?_
             intro v2 w6 hown2 hg2 hat2
             obtain ⟨hlm7, hb7⟩ := HLM6.out.onRow (m' := lr ++ [z]) hown2 (by simp) (by rw [List.flatMap_append]; simp) hg2 hat2
             have HLM7 := Lib.hid hlm7
             have HB7 := Lib.hid (HB6.out.trans hb7)
             clear hown2 hg2 hat2 hlm7 hb7))
        exact ⟨⟨j + 1, lr ++ [z], by omega, by omega, by simp [HLR.out], by go_num, by rw [HSN.out]; exact HLM7.out, HB7.out⟩, by simp [intOf]; omega⟩
      · have hd : (decide ((j : Int) < (l.length : Int)) = false) ∨ (decide ((j : Int) < (l.length : Int)) = true ∧ decide ((j : Int) < 20) = false) := by
          by_cases h1 : j < l.length
          · exact .inr ⟨decide_eq_true (by omega), decide_eq_false (by omega)⟩
          · exact .inl (decide_eq_false (by omega))
        have HJ : Hid (lr.length ≤ 20) := by show lr.length ≤ 20; omega
        clear hlt
        rcases hd with d0 | ⟨d0, d1⟩
        have d5 : ¬ (j < l.length) := by have := of_decide_eq_false d0; omega
        rotate_left
        have d2 : ¬ ((j : Int) < 20) := of_decide_eq_false d1
        have d3 : j < l.length := by have := of_decide_eq_true d0; omega
        all_goals
          go_wp2_with fail
          go_meet
          exact ⟨lr, HLM.out, HJ.out, HB.out⟩
  case rest =>
    obtain ⟨lr, hlm, hlr, hb⟩ := hcut
    have HLM := Lib.hid hlm
    have HB := Lib.hid hb
    obtain ⟨A2, c2, hu6, hc2, hrd2, _⟩ := own_rd hlm.row (row_one encOk_item lr)
    have HRI := Lib.hid (show RdI wc A2 lr.length lr from ⟨rfl, hrd2⟩)
    subst hu6
    have hll := toX_len h lr
    clear hlm hb hrd2
    go_upto_block 2 with (fail)
    go_cut [9] (fun _ wx => Below wc.heap.size wc wx)
    case first =>
      go_wp2_with fail
      go_loopw [9] (fun i wr => ∃ j : Nat, j ≤ lr.length ∧ i = .int .i64 j ∧ Below wc.heap.size wc wr) (fun i _ => lr.length - (intOf i).toNat)
      case atStart => exact ⟨0, Nat.zero_le _, rfl, Below.refl _ _⟩
      case round =>
        obtain ⟨j, hj, rfl, hbr⟩ := hrel
        have HBr := Lib.hid hbr
        clear hbr
        by_cases hlt : j < lr.length
        · have d0 : decide ((j : Int) < (lr.length : Int)) = true := decide_eq_true (by omega)
          obtain ⟨y, hy⟩ : ∃ y, lr[j]? = some y := ⟨_, List.getElem?_eq_getElem hlt⟩
          obtain ⟨a2, rfl, k0, k1, k2, k3⟩ := rdI_at (HRI.out.keep HBr.out) hy
          have s1 : IntKind.i64.wrap ((j : Int) + 1) = (j : Int) + 1 := IntWalk.i64_in _ (by omega)
          have s2 : IntKind.i64.wrap (97 + (j : Int)) = 97 + (j : Int) := IntWalk.i64_in _ (by omega)
          have d6 : (0 : Int) ≤ (j : Int) := by omega
          have d7 : (j : Int) < (lr.length : Int) := by omega
          have d8 : ((j : Int) != (j : Int)) = false := by simp
          have q1 := conv_i32 j (by omega)
          have q2 := conv_rune j
          have q3 : h.size + (encX j).size ≤ 9223372036854775807 := by have := HSZ.out; have := encX_size j (by omega); omega
          have q6 : ¬ (9223372036854775807 < h.size + (encX j).size) := by omega
          have HPL := Lib.hid (show placeX ((toX h lr).map Ix.h) (h ++ encX j) = (j : Int) by rw [toX_h]; exact placeX_at h lr.length j hlt (by omega))
          obtain ⟨b1, hb1⟩ : ∃ b, scopeB (lr.map key_item) 1 [y.name] = b := ⟨_, rfl⟩
          obtain ⟨b3, hb3⟩ : ∃ b, scopeB (lr.map key_item) 3 [pB] = b := ⟨_, rfl⟩
          have HS1 := Lib.hid (show scopeB ((toX h lr).map key_itex) 1 [y.name] = b1 by rw [toX_key]; exact hb1)
          have HS3 := Lib.hid (show scopeB ((toX h lr).map key_itex) 3 [pB] = b3 by rw [toX_key]; exact hb3)
          have HT1 := Lib.hid hb1
          have HT3 := Lib.hid hb3
          have d9 : (b1 != b1) = false := by simp
          have d10 : (b3 != b3) = false := by simp
          have HLr := Lib.hid (HLM.out.keep HBr.out)
          have HY := Lib.hid hy
          clear hy hb1 hb3
          have HW := Lib.hid (made_drew wr)
          have HC := Lib.hid (made_drew wr)
          have HRr := Lib.hid (HRI.out.keep HBr.out)
          have keepS : ∀ W, Below wr.heap.size wr W → W.cell? { a2.add (j * 4) with off := (a2.add (j * 4)).off + 2, spot := none } = some (.string y.name) := fun W hW => cell_keep hW k2
          have KS := Lib.hid keepS
          have hlr2 : lr.length ≤ 1000000 := by omega
          clear keepS k0 k1 k3
          go_wp2_with fail
          go_region_held3 (fun W => W.cell? { a2.add (j * 4) with off := (a2.add (j * 4)).off + 2, spot := none } = some (.string y.name))
            (first | exact KS.out _ HW.out | exact KS.out _ (made_alloc HW.out _) | exact KS.out _ (made_alloc (made_alloc HW.out _) _))
            (first
              | (go_at_call 31
                 refine (place_itex _ _ q _ _ (HLr.out.list.keep HW.out)).mono ?_
                 rw [HPL.out]
                 rintro e w2 ⟨rfl, b2⟩
                 have HC := Lib.hid b2
                 have HW := Lib.hid (below_then HW.out HW.out.size b2)
                 clear b2)
              | (go_at_call 32
                 first
                   | ((with_reducible refine (scopeY _ wr q _ 1 y.name b1 HLr.out.list HS1.out _ _ ?_ ?_).mono ?_)
                      · (first | exact HW.out | exact made_alloc HW.out _ | exact made_alloc (made_alloc HW.out _) _)
                      · (first | exact (Blk.new _ _ #[.string _] (0, 0)).cell 0 | exact ((Blk.new _ _ #[.string _] (0, 0)).alloc _).cell 0 | exact cell_keep HC.out ((Blk.new _ _ #[.string _] (0, 0)).cell 0) | exact cell_keep HC.out (((Blk.new _ _ #[.string _] (0, 0)).alloc _).cell 0) | exact two_new _ _ _ _ | exact cell_keep HC.out (two_new _ _ _ _)))
                   | ((with_reducible refine (scopeY _ wr q _ 3 pB b3 HLr.out.list HS3.out _ _ ?_ ?_).mono ?_)
                      · (first | exact HW.out | exact made_alloc HW.out _ | exact made_alloc (made_alloc HW.out _) _)
                      · (first | exact (Blk.new _ _ #[.string _] (0, 0)).cell 0 | exact ((Blk.new _ _ #[.string _] (0, 0)).alloc _).cell 0 | exact cell_keep HC.out ((Blk.new _ _ #[.string _] (0, 0)).cell 0) | exact cell_keep HC.out (((Blk.new _ _ #[.string _] (0, 0)).alloc _).cell 0) | exact two_new _ _ _ _ | exact cell_keep HC.out (two_new _ _ _ _)))
                 rintro e w2 ⟨rfl, b2⟩
                 have HC := Lib.hid b2
                 have HW := Lib.hid (below_then (by first | exact HW.out | exact made_alloc HW.out _ | exact made_alloc (made_alloc HW.out _) _) (Below.size (by first | exact HW.out | exact made_alloc HW.out _ | exact made_alloc (made_alloc HW.out _) _)) b2)
                 clear b2)
              | (go_at_call 33
                 first
                   | ((with_reducible refine (scopeR wr _ _ _ lr 1 y.name b1 HRr.out hlr2 HT1.out _ _ ?_ ?_).mono ?_)
                      · (first | exact HW.out | exact made_alloc HW.out _ | exact made_alloc (made_alloc HW.out _) _)
                      · (first | exact (Blk.new _ _ #[.string _] (0, 0)).cell 0 | exact ((Blk.new _ _ #[.string _] (0, 0)).alloc _).cell 0 | exact cell_keep HC.out ((Blk.new _ _ #[.string _] (0, 0)).cell 0) | exact cell_keep HC.out (((Blk.new _ _ #[.string _] (0, 0)).alloc _).cell 0) | exact two_new _ _ _ _ | exact cell_keep HC.out (two_new _ _ _ _)))
                   | ((with_reducible refine (scopeR wr _ _ _ lr 3 pB b3 HRr.out hlr2 HT3.out _ _ ?_ ?_).mono ?_)
                      · (first | exact HW.out | exact made_alloc HW.out _ | exact made_alloc (made_alloc HW.out _) _)
                      · (first | exact (Blk.new _ _ #[.string _] (0, 0)).cell 0 | exact ((Blk.new _ _ #[.string _] (0, 0)).alloc _).cell 0 | exact cell_keep HC.out ((Blk.new _ _ #[.string _] (0, 0)).cell 0) | exact cell_keep HC.out (((Blk.new _ _ #[.string _] (0, 0)).alloc _).cell 0) | exact two_new _ _ _ _ | exact cell_keep HC.out (two_new _ _ _ _)))
                 rintro e w2 ⟨rfl, b2⟩
                 have HC := Lib.hid b2
                 have HW := Lib.hid (below_then (by first | exact HW.out | exact made_alloc HW.out _ | exact made_alloc (made_alloc HW.out _) _) (Below.size (by first | exact HW.out | exact made_alloc HW.out _ | exact made_alloc (made_alloc HW.out _) _)) b2)
                 clear b2))
          all_goals
            go_wp2_with fail
            exact ⟨⟨j + 1, by omega, by go_num, below_then HBr.out HBr.out.size HW.out⟩, by simp [intOf]; omega⟩
        · have d0 : decide ((j : Int) < (lr.length : Int)) = false := decide_eq_false (by omega)
          go_wp2_with fail
          go_meet
          exact HBr.out
    case rest =>
      have HB9 := Lib.hid hcut
      have HL9 := Lib.hid (HLM.out.keep hcut)
      have q3 : h.size + noneB.size ≤ 9223372036854775807 := by have := HSZ.out; have : noneB.size = 4 := rfl; omega
      have hpl := place_itex _ wc q _ (h ++ noneB) HL9.out.list
      rw [toX_h, placeX_none h _ _ (fun i hi => hX_none h i (by omega))] at hpl
      have HPL := Lib.hid hpl
      have HLL := Lib.hid hll
      have d11 : ((lr.length : Int) == (lr.length : Int)) = true := by simp
      clear hpl hcut hll
      unfold noneB at HPL q3
      go_wp2_with fail
      refine HPL.out.mono ?_
      rintro e w10 ⟨rfl, b10⟩
      have HL10 := Lib.hid (HL9.out.keep b10)
      have HB10 := Lib.hid (below_then HB.out HB.out.size (below_then HB9.out HB9.out.size b10))
      clear b10
      go_wp2_with fail
      refine (lenL_itex _ _ q _ HL10.out.list).mono ?_
      rintro e w11 ⟨rfl, rfl⟩
      rw [HLL.out]
      go_wp2_with fail
      refine (knownOpen_any _).mono ?_
      rintro e w12 ⟨rfl, b12⟩
      have HB12 := Lib.hid (below_then HB10.out HB10.out.size b12)
      clear b12
      go_wp2_with fail
      go_ret
      exact ⟨rfl, HB12.out⟩
end Go.Proofs.Ytoehpladbdefkaa
