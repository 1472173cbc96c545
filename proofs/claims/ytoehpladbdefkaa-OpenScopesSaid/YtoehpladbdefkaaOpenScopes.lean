/- OpenScopes, walked. -/
import Derived.Test.YtoehpladbdefkaaOpenScopesL
import Derived.Deep.Slices
import Derived.Deep.DeepCutAuto
namespace Go.Proofs.Ytoehpladbdefkaa
open Go.RowKit

theorem scopeX (B : Nat) (wb : World) (q : Nat) (L : List It) (kind : Int) (b : ByteArray) (bv : Bool) (h : Hid (LB_item B wb q L)) (hv : Hid (scopeB (L.map key_item) kind [b] = bv)) (W : World) (hW : Below wb.heap.size wb W) :
    Calls Try.prog 38 #[.pointer (some ⟨q, 0, none⟩), .int .i64 kind, .slice (some ⟨W.heap.size, 0, none⟩) 1 1] (W.alloc (.cells #[.string b] 9)) fun e w' => e = .returned (.bool bv) ∧ Below wb.heap.size wb w' := by
  have ba : Below wb.heap.size wb (W.alloc (.cells (strs [b]).toArray 9)) := hW.alloc hW.size _
  have hsc := scope_item B _ q L kind (some ⟨W.heap.size, 0, none⟩) 1 [b] (h.out.keep ba) (rd_lit W 9 [b]) (by simp)
  rw [hv] at hsc
  refine hsc.mono ?_
  rintro e w' ⟨he, hb⟩
  exact ⟨he, below_both ba hb⟩
theorem hasX (B : Nat) (wb : World) (q : Nat) (L : List It) (b : ByteArray) (bv : Bool) (h : Hid (LB_item B wb q L)) (hl : L.length ≤ 40) (hv : Hid (L.any (hasP b) = bv)) (W : World) (hW : Below wb.heap.size wb W) :
    Calls Try.prog 39 #[.pointer (some ⟨q, 0, none⟩), .string b] W fun e w' => e = .returned (.bool bv) ∧ Below wb.heap.size wb w' := by
  have hh := has_item B W q L b (h.out.keep hW) (by omega)
  rw [hv] at hh
  refine hh.mono ?_
  rintro e w' ⟨he, hb⟩
  exact ⟨he, below_both hW hb⟩

theorem untilX (B : Nat) (W : World) (q : Nat) (L : List It) (b : ByteArray) (h : LB_item B W q L) :
    Calls Try.prog 40 #[.pointer (some ⟨q, 0, none⟩), .slice (some ⟨W.heap.size, 0, none⟩) 1 1] (W.alloc (.cells #[.string b] 9)) fun e w' => e = .returned (.int .i64 (untilN [b] L : Int)) ∧ Below B W w' := by
  obtain ⟨F, hF, hb, hBq, hB⟩ := h.free
  have ba : Below W.heap.size W (W.alloc (.cells (strs [b]).toArray 9)) := (Below.refl _ _).alloc (Nat.le_refl _) _
  have hk : Blk (W.alloc (.cells (strs [b]).toArray 9)) W.heap.size 9 (strs [b]).toArray (0, 0) := Blk.new W _ _ _
  refine (until_item F (W.alloc (.cells (strs [b]).toArray 9)) q L (some ⟨W.heap.size, 0, none⟩) 1 [b] (hF.keep ba) (fun w' hw' => ?_) (by simp)).mono ?_
  · have hk' := hk.but hw' (fun hf => by have := hb _ hf; omega)
    exact ⟨by simp [strs], fun u hu => by obtain ⟨x, _, rfl⟩ := List.mem_map.1 hu; rfl, fun _ => ⟨_, rfl, fun j u hu => by rw [add0, hk'.cell j, List.getElem?_toArray]; exact hu⟩⟩
  · rintro e w' ⟨he, _, hbt⟩
    exact ⟨he, (ba.mono hB).trans (hbt.below (fun k hk => (hb k hk).1) (Nat.le_trans hB ba.size))⟩

set_option maxHeartbeats 4000000 in
set_option maxRecDepth 100000 in
theorem walk_OpenScopes (A : Option Addr) (c : Nat) (l : List As) (n : Int) (w : World) (hr : Rd w A l.length 5 (l.flatMap enc_as)) (_hlc : l.length ≤ c) (_hcm : c ≤ maxLen) :
    Calls Try.prog 6 #[.slice A l.length c, .int .i64 n] w fun e w' => e = .returned (.bool true) ∧ Below w.heap.size w w' := by
  have HR := Lib.hid hr
  clear hr
  go_enter Try.func6, Try.ntmps6
  go_wp2_with fail
  refine (newL_item w.heap.size w (Nat.le_refl _)).mono ?_
  rintro e w1 ⟨q, rfl, h1, b1⟩
  go_wp2_with fail
  refine (names_keep n _).mono ?_
  rintro e w2 ⟨rfl, b2⟩
  have h2 := h1.keep b2
  have b02 := below_both b1 b2
  generalize nameAt n = x
  clear h1 b1 b2
  go_wp2_with fail
  go_loopw [7] (fun i wr => ∃ (j : Nat) (lr : List It), j ≤ l.length ∧ j ≤ 30 ∧ lr.length = j ∧ i = .int .i64 j ∧ LB_item w.heap.size wr q lr ∧ Below w.heap.size w wr) (fun i _ => l.length - (intOf i).toNat)
  case atStart => exact ⟨0, [], Nat.zero_le _, by omega, rfl, rfl, h2, b02⟩
  case round =>
    obtain ⟨j, lr, hj, hj30, hlr, rfl, hlb, hbr⟩ := hrel
    have HLB := Lib.hid hlb
    have HB := Lib.hid hbr
    clear hlb hbr h2 b02
    by_cases hlt : j < l.length ∧ j < 30
    · obtain ⟨hlt, h30⟩ := hlt
      have d0 : decide ((j : Int) < (l.length : Int)) = true := decide_eq_true (by omega)
      have d1 : decide ((j : Int) < 30) = true := decide_eq_true (by omega)
      obtain ⟨y, hy⟩ : ∃ y, l[j]? = some y := ⟨_, List.getElem?_eq_getElem hlt⟩
      obtain ⟨a1, rfl, hc1⟩ := (HR.out.keep HB.out).2.2 (by omega)
      have k0 := hc1 (j * 5 + 0) _ (row_at encOk_as l j 0 y _ hy rfl)
      have k1 := hc1 (j * 5 + 1) _ (row_at encOk_as l j 1 y _ hy rfl)
      have k2 := hc1 (j * 5 + 2) _ (row_at encOk_as l j 2 y _ hy rfl)
      have k3 := hc1 (j * 5 + 3) _ (row_at encOk_as l j 3 y _ hy rfl)
      have k4 := hc1 (j * 5 + 4) _ (row_at encOk_as l j 4 y _ hy rfl)
      simp only [Nat.add_zero] at k0
      rw [← Go.Deep.add_add] at k1 k2 k3 k4
      have k1 : wr.cell? { a1.add (j * 5) with off := (a1.add (j * 5)).off + 1, spot := none } = some (.int .i64 y.h) := (Addr.add_succ' (a1.add (j * 5)) 0) ▸ k1
      have k2 : wr.cell? { a1.add (j * 5) with off := (a1.add (j * 5)).off + 2, spot := none } = some (.int .i64 y.n) := (Addr.add_succ' (a1.add (j * 5)) 1) ▸ k2
      have k3 : wr.cell? { a1.add (j * 5) with off := (a1.add (j * 5)).off + 3, spot := none } = some (.int .i64 y.m) := (Addr.add_succ' (a1.add (j * 5)) 2) ▸ k3
      have k4 : wr.cell? { a1.add (j * 5) with off := (a1.add (j * 5)).off + 4, spot := none } = some (.bool y.svg) := (Addr.add_succ' (a1.add (j * 5)) 3) ▸ k4
      have s1 : IntKind.i64.wrap ((j : Int) + 1) = (j : Int) + 1 := IntWalk.i64_in _ (by omega)
      clear hc1 hy
      go_wp2_with fail
      refine (el_keep _ y).mono ?_
      rintro e w3 ⟨rfl, b3⟩
      go_wp2_with fail
      refine (pushL_item _ _ q lr (elI y) (HLB.out.keep b3) (by omega)).mono ?_
      rintro e w4 ⟨rfl, h4, b4⟩
      have b04 := (HB.out.trans (b3.mono HB.out.size)).trans b4
      have HL4 := Lib.hid h4
      have HB4 := Lib.hid b04
      have hl4 : (lr ++ [elI y]).length ≤ 40 := by simp; omega
      clear h4 b04 b3 b4
      have hw0 := Below.refl w4.heap.size w4
      obtain ⟨bt, ht⟩ : ∃ b, scopeB ((lr ++ [elI y]).map key_item) 4 [x] = b := ⟨_, rfl⟩
      obtain ⟨ba, ha⟩ : ∃ b, scopeB ((lr ++ [elI y]).map key_item) 1 [x] = b := ⟨_, rfl⟩
      obtain ⟨bl, hl2⟩ : ∃ b, scopeB ((lr ++ [elI y]).map key_item) 2 [x] = b := ⟨_, rfl⟩
      obtain ⟨bb, hb3⟩ : ∃ b, scopeB ((lr ++ [elI y]).map key_item) 3 [x] = b := ⟨_, rfl⟩
      obtain ⟨bh, hh⟩ : ∃ b, (lr ++ [elI y]).any (hasP x) = b := ⟨_, rfl⟩
      have r1 : bl = true → ba = true := fun e => by rw [← ha]; exact scope_any (.inl rfl) (hl2.trans e)
      have r2 : bb = true → ba = true := fun e => by rw [← ha]; exact scope_any (.inr rfl) (hb3.trans e)
      have r3 : ba = true → bh = true := fun e => by rw [← hh]; exact scope_has (ha.trans e)
      have r4 : bt = true → bh = true := fun e => by rw [← hh]; exact scope_has (ht.trans e)
      have HT := Lib.hid ht
      have HA := Lib.hid ha
      have HL2 := Lib.hid hl2
      have HB3 := Lib.hid hb3
      have HH := Lib.hid hh
      clear ht ha hl2 hb3 hh k0 k1 k2 k3 k4
      go_wp2_with fail
      refine (scopeX _ w4 q _ 1 x _ HL4 HA _ hw0).mono ?_
      rintro e w5 ⟨rfl, hw5⟩
      go_wp2_with fail
      refine (scopeX _ w4 q _ 2 x _ HL4 HL2 _ hw5).mono ?_
      rintro e w6 ⟨rfl, hw6⟩
      go_wp2_with fail
      refine (scopeX _ w4 q _ 3 x _ HL4 HB3 _ hw6).mono ?_
      rintro e w7 ⟨rfl, hw7⟩
      clear hw0 hw5 hw6
      have hend : ∀ W, Below w4.heap.size w4 W → (∃ (j_1 : Nat) (lr : List It), j_1 ≤ l.length ∧ j_1 ≤ 30 ∧ lr.length = j_1 ∧ Value.int .i64 ((j : Int) + 1) = .int .i64 j_1 ∧ LB_item w.heap.size W q lr ∧ Below w.heap.size w W) := fun W hW =>
        ⟨j + 1, lr ++ [elI y], by omega, by omega, by simp; omega, by go_num, HL4.out.keep hW, below_then HB4.out HB4.out.size hW⟩
      have HE := Lib.hid hend
      clear hend
      cases ba
      · obtain rfl : bl = false := by cases bl; rfl; exact absurd (r1 rfl) (by decide)
        obtain rfl : bb = false := by cases bb; rfl; exact absurd (r2 rfl) (by decide)
        clear r1 r2 r3
        go_wp2_with fail
        refine (scopeX _ w4 q _ 4 x _ HL4 HT _ hw7).mono ?_
        rintro e w8 ⟨rfl, hw8⟩
        cases bt
        · clear r4 hw7
          go_wp2_with fail
          exact ⟨HE.out _ hw8, by simp [intOf]; omega⟩
        · obtain rfl := r4 rfl
          clear r4 hw7
          go_wp2_with fail
          refine (hasX _ w4 q _ x _ HL4 hl4 HH _ hw8).mono ?_
          rintro e w9 ⟨rfl, hw9⟩
          clear hw8
          go_wp2_with fail
          exact ⟨HE.out _ hw9, by simp [intOf]; omega⟩
      · obtain rfl := r3 rfl
        clear r1 r2 r3 r4
        cases bl <;> cases bb
        all_goals
          go_wp2_with fail
          refine (hasX _ w4 q _ x _ HL4 hl4 HH _ hw7).mono ?_
          rintro e w8 ⟨rfl, hw8⟩
          go_wp2_with fail
          refine (scopeX _ w4 q _ 4 x _ HL4 HT _ hw8).mono ?_
          rintro e w9 ⟨rfl, hw9⟩
          cases bt
          · go_wp2_with fail
            exact ⟨HE.out _ hw9, by simp [intOf]; omega⟩
          · go_wp2_with fail
            refine (hasX _ w4 q _ x _ HL4 hl4 HH _ hw9).mono ?_
            rintro e w10 ⟨rfl, hw10⟩
            go_wp2_with fail
            exact ⟨HE.out _ hw10, by simp [intOf]; omega⟩
    · have HJ : Hid (lr.length ≤ 30) := by show lr.length ≤ 30; omega
      have hd : (decide ((j : Int) < (l.length : Int)) = false) ∨ (decide ((j : Int) < (l.length : Int)) = true ∧ decide ((j : Int) < 30) = false) := by
        by_cases h1 : j < l.length
        · exact .inr ⟨decide_eq_true (by omega), decide_eq_false (by omega)⟩
        · exact .inl (decide_eq_false (by omega))
      clear hlt
      have et : tableB.toList = [116, 97, 98, 108, 101] := by simp [tableB, Lib.toList_data]
      rcases hd with d0 | ⟨d0, d1⟩
      have d5 : ¬ (j < l.length) := by have := of_decide_eq_false d0; omega
      rotate_left
      have d2 : ¬ ((j : Int) < 30) := of_decide_eq_false d1
      have d3 : j < l.length := by have := of_decide_eq_true d0; omega
      all_goals
        go_wp2_with fail
        refine (pushL_item _ _ q lr ⟨99, 1, tableB, none, 0, 0⟩ HLB.out (by have := HJ.out; omega)).mono ?_
        rintro e w4 ⟨rfl, h4, b4⟩
        have HL4 := Lib.hid h4
        have HB4 := Lib.hid (HB.out.trans b4)
        have hw0 := Below.refl w4.heap.size w4
        clear h4 b4
        cases hx : (x.toList == tableB.toList)
        · have HX := Lib.hid hx
          rw [et] at hx
          go_wp2_with fail
          refine (scopeX _ w4 q _ 1 x false HL4 (scope_table (by omega) HX.out) _ hw0).mono ?_
          rintro e w5 ⟨rfl, hw5⟩
          go_wp2_with fail
          refine (scopeX _ w4 q _ 4 x false HL4 (scope_table (by omega) HX.out) _ hw5).mono ?_
          rintro e w6 ⟨rfl, hw6⟩
          go_wp2_with fail
          refine (scopeX _ w4 q _ 3 x false HL4 (scope_table (by omega) HX.out) _ hw6).mono ?_
          rintro e w7 ⟨rfl, hw7⟩
          go_wp2_with fail
          refine (scopeX _ w4 q _ 2 x false HL4 (scope_table (by omega) HX.out) _ hw7).mono ?_
          rintro e w8 ⟨rfl, hw8⟩
          clear hw0 hw5 hw6 hw7 hx
          go_wp2_with fail
          refine (pushL_item _ _ q _ ⟨100, 1, x, none, 0, 0⟩ (HL4.out.keep hw8) (by have := HJ.out; simp; omega)).mono ?_
          rintro e w9 ⟨rfl, h9, b9⟩
          have HL9 := Lib.hid h9
          have HB9 := Lib.hid ((below_then HB4.out HB4.out.size hw8).trans b9)
          have hv0 := Below.refl w9.heap.size w9
          clear h9 b9 hw8
          go_wp2_with fail
          refine (scopeX _ w9 q _ 1 x true HL9 (scope_top (by omega)) _ hv0).mono ?_
          rintro e w10 ⟨rfl, hv1⟩
          go_wp2_with fail
          refine (scopeX _ w9 q _ 4 x true HL9 (scope_top (by omega)) _ hv1).mono ?_
          rintro e w11 ⟨rfl, hv2⟩
          go_wp2_with fail
          refine (untilX _ w11 q _ x (HL9.out.keep hv2)).mono ?_
          rintro e w12 ⟨rfl, hv3⟩
          rw [until_top]
          have HV3 := Lib.hid ((below_then HB9.out HB9.out.size hv2).trans hv3)
          clear hv0 hv1 hv2 hv3
          go_wp2_with fail
          refine (knownOpen_any w12).mono ?_
          rintro e w13 ⟨rfl, hv4⟩
          go_wp2_with fail
          go_ret
          exact ⟨rfl, below_then HV3.out HV3.out.size hv4⟩
        · rw [et] at hx
          go_wp2_with fail
          refine (pushL_item _ _ q _ ⟨100, 1, x, none, 0, 0⟩ HL4.out (by have := HJ.out; simp; omega)).mono ?_
          rintro e w9 ⟨rfl, h9, b9⟩
          have HL9 := Lib.hid h9
          have HB9 := Lib.hid (HB4.out.trans b9)
          have hv0 := Below.refl w9.heap.size w9
          clear h9 b9 hx
          go_wp2_with fail
          refine (scopeX _ w9 q _ 1 x true HL9 (scope_top (by omega)) _ hv0).mono ?_
          rintro e w10 ⟨rfl, hv1⟩
          go_wp2_with fail
          refine (scopeX _ w9 q _ 4 x true HL9 (scope_top (by omega)) _ hv1).mono ?_
          rintro e w11 ⟨rfl, hv2⟩
          go_wp2_with fail
          refine (untilX _ w11 q _ x (HL9.out.keep hv2)).mono ?_
          rintro e w12 ⟨rfl, hv3⟩
          rw [until_top]
          have HV3 := Lib.hid ((below_then HB9.out HB9.out.size hv2).trans hv3)
          clear hv0 hv1 hv2 hv3
          go_wp2_with fail
          refine (knownOpen_any w12).mono ?_
          rintro e w13 ⟨rfl, hv4⟩
          go_wp2_with fail
          go_ret
          exact ⟨rfl, below_then HV3.out HV3.out.size hv4⟩
end Go.Proofs.Ytoehpladbdefkaa
