/- arbourlaw18.tells. -/
import Derived.Test.YtoehpladbdefkaaOpenRem
import Derived.Test.YtoehpladbdefkaaOpenHas
import Derived.Test.YtoehpladbdefkaaOpenDrop
namespace Go.Proofs.Ytoehpladbdefkaa
open Go.RowKit Go.BigFrame

/-- What a row's element reads as. -/
theorem LM.cells {B : Nat} {w : World} {q n c : Nat} {l m : List It} {A : Option Addr} (h : LM B w q l (.slice A n c) m) {j : Nat} {y : It} (hy : m[j]? = some y) :
    ∃ g, A = some ⟨g, 0, none⟩ ∧ n = m.length ∧ w.cell? ⟨g, j * 4, none⟩ = some (.int .i64 y.h) ∧ w.cell? ⟨g, j * 4 + 1, none⟩ = some (.int .i64 y.ns) ∧ w.cell? ⟨g, j * 4 + 2, none⟩ = some (.string y.name) ∧ w.cell? ⟨g, j * 4 + 3, none⟩ = some (.slice y.a y.n y.c) := by
  obtain ⟨g, c2, hv, hc⟩ := h.at hy
  injection hv with e1 e2 e3
  exact ⟨g, e1, e2, hc 0 _ rfl, hc 1 _ rfl, hc 2 _ rfl, hc 3 _ rfl⟩
def askB (x : As) : List Value := enc_as x
theorem var_as {w : World} {b : Nat} {x : As} (h : Blk w b 53 (enc_as x).toArray (0, 0)) : w.cell? ⟨b, 0, none⟩ = some (.int .i64 x.kind) ∧ w.cell? ⟨b, 1, none⟩ = some (.int .i64 x.h) ∧ w.cell? ⟨b, 2, none⟩ = some (.int .i64 x.n) ∧ w.cell? ⟨b, 3, none⟩ = some (.int .i64 x.m) ∧ w.cell? ⟨b, 4, none⟩ = some (.bool x.svg) :=
  ⟨h.cell 0, h.cell 1, h.cell 2, h.cell 3, h.cell 4⟩
theorem take_any {p : It → Bool} {l : List It} {i : Nat} {y : It} (h : l[i]? = some y) : (l.take (i + 1)).any p = ((l.take i).any p || p y) := by rw [take_last h, List.any_append]; simp
theorem hasP_is (b : ByteArray) (y : It) : isN [b] y = hasP b y := rfl
set_option maxHeartbeats 40000000 in
set_option maxRecDepth 100000 in
/-- The loop of tells, and what stands behind it, from a world where the ask lies at b5. -/
theorem tells18 (B : Nat) (w : World) (q : Nat) (l : List It) (A : Option Addr) (n c : Nat) (x : As) (h : LM B w q l (.slice A n c) l) (hbare : ∀ y ∈ l, bareI y) (hn : n = l.length) (hsz : n ≤ 1000000) :
    Calls Try.prog 104 #[.pointer (some ⟨q, 0, none⟩), .slice A n c, val_as x] w fun e w' => e = .returned (.bool true) ∧ Below w.heap.size w w' := by
  have hb0 : Below w.heap.size w (w.alloc (.cells (enc_as x).toArray 53)) := (Below.refl _ _).alloc (Nat.le_refl _) _
  have HX := Lib.hid (Blk.new w 53 (enc_as x).toArray (0, 0))
  obtain ⟨w0, hw0⟩ : ∃ w0, w0 = w.alloc (.cells (enc_as x).toArray 53) := ⟨_, rfl⟩
  rw [← hw0] at hb0 HX
  have HW0 := Lib.hid hw0.symm
  have HB0 := Lib.hid hb0
  have h0 := h.keep hb0
  have HL := Lib.hid (fun W (hW : Below w0.heap.size w0 W) => h0.keep hW)
  have KA := Lib.hid (fun W (hW : Below w0.heap.size w0 W) => var_as (HX.out.keep hW))
  have HBARE := Lib.hid hbare
  have HN := Lib.hid hn
  have hpl : ∀ W, Below w0.heap.size w0 W → RdI W A n l := fun W hW => by
    have hr := (h0.keep hW).row
    obtain ⟨A2, c2, e, hc, hrd, _⟩ := own_rd hr (row_one encOk_item l)
    injection e with e1 e2 e3
    rw [e1, hn]
    exact ⟨rfl, hrd⟩
  have HRI := Lib.hid hpl
  have hLl : l.length ≤ 1000000 := by omega
  clear h h0 hb0 hw0 hbare hpl hn
  obtain ⟨xk, xh, xn, xm, xs⟩ := x
  simp only at KA
  have HNM0 := Lib.hid (fun W => names_keep xn W)
  obtain ⟨nm, hnm⟩ : ∃ z, nameAt xn = z := ⟨_, rfl⟩
  rw [hnm] at HNM0
  clear hnm
  go_enter Try.func104, Try.ntmps104
  unfold val_as
  simp only
  go_upto_region 1 with (fail)
  rw [show w.alloc (.cells #[.int .i64 xk, .int .i64 xh, .int .i64 xn, .int .i64 xm, .bool xs] 53) = w0 from HW0.out]
  go_cut [7, 8] (fun s7 s8 wx => ∃ b1, s7 = .pointer (some ⟨b1, 0, none⟩) ∧ s8 = .bool (l.getLast?).isSome ∧ Hid (∀ y, l.getLast? = some y → Blk wx b1 50 (enc_item y).toArray (0, 0)) ∧ Hid (Below w0.heap.size w0 wx))
  case first =>
    have HT := Lib.hid (topL_item B w0 q l (HL.out _ (Below.refl _ _)).list)
    cases hq : l.getLast? with
    | none =>
      rw [hq] at HT
      simp only [Option.elim, Option.isSome_none] at HT ⊢
      go_wp2_with fail
      refine HT.out.mono ?_
      rintro e w2 ⟨rfl, b2⟩
      have HB2 := Lib.hid b2
      have HQ := Lib.hid hq
      clear b2 hq
      go_wp2_with fail
      go_meet
      exact ⟨_, rfl, by rw [HQ.out]; rfl, Lib.hid (fun y e => by rw [HQ.out] at e; cases e), made_alloc HB2.out _⟩
    | some y =>
      rw [hq] at HT
      simp only [Option.elim, Option.isSome_some, val_item] at HT ⊢
      go_wp2_with fail
      refine HT.out.mono ?_
      rintro e w2 ⟨rfl, b2⟩
      have HB2 := Lib.hid b2
      have HQ := Lib.hid hq
      clear b2 hq
      go_wp2_with fail
      go_meet
      exact ⟨_, rfl, by rw [HQ.out]; rfl, Lib.hid (fun y2 e => by rw [HQ.out] at e; cases e; exact Blk.new w2 _ _ _), made_alloc HB2.out _⟩
  case rest =>
  obtain ⟨b1, rfl, rfl, HK1, HB1⟩ := hcut
  go_upto_region 2 with (fail)
  go_cut [9, 10] (fun s9 s10 wx => ∃ b2, s9 = .pointer (some ⟨b2, 0, none⟩) ∧ s10 = .bool (getL l xh).isSome ∧ Hid (∀ y, getL l xh = some y → Blk wx b2 50 (enc_item y).toArray (0, 0)) ∧ Hid (∀ y, l.getLast? = some y → Blk wx b1 50 (enc_item y).toArray (0, 0)) ∧ Hid (Below w0.heap.size w0 wx))
  case first =>
    have HT := Lib.hid (atL_item B wc q l xh (HL.out _ HB1.out).list)
    obtain ⟨_, a1, _⟩ := KA.out _ HB1.out
    cases hq : getL l xh with
    | none =>
      rw [hq] at HT
      simp only [Option.elim, Option.isSome_none] at HT ⊢
      go_wp2_with fail
      refine HT.out.mono ?_
      rintro e w2 ⟨rfl, b2⟩
      have HB2 := Lib.hid b2
      have HQ := Lib.hid hq
      clear b2 hq
      go_wp2_with fail
      go_meet
      exact ⟨_, rfl, by rw [HQ.out]; rfl, Lib.hid (fun y e => by rw [HQ.out] at e; cases e), Lib.hid (fun y e => ((HK1.out y e).keep HB2.out).alloc _), made_alloc (below_then HB1.out HB1.out.size HB2.out) _⟩
    | some y =>
      rw [hq] at HT
      simp only [Option.elim, Option.isSome_some, val_item] at HT ⊢
      go_wp2_with fail
      refine HT.out.mono ?_
      rintro e w2 ⟨rfl, b2⟩
      have HB2 := Lib.hid b2
      have HQ := Lib.hid hq
      clear b2 hq
      go_wp2_with fail
      go_meet
      exact ⟨_, rfl, by rw [HQ.out]; rfl, Lib.hid (fun y2 e => by rw [HQ.out] at e; cases e; exact Blk.new w2 _ _ _), Lib.hid (fun y e => ((HK1.out y e).keep HB2.out).alloc _), made_alloc (below_then HB1.out HB1.out.size HB2.out) _⟩
  case rest =>
  clear HK1 HB1
  obtain ⟨b2, rfl, rfl, HK2, HK1, HB2⟩ := hcut
  go_upto_region 3 with (fail)
  go_cut [8, 10, 90] (fun s8 s10 s90 wx => s90 = .bool false ∧ Hid (Below w0.heap.size w0 wx))
  case first =>
    have HLEN := Lib.hid (fun m : After wc => lenL_item B m.W q l (HL.out _ (below_then HB2.out HB2.out.size m.below)).list)
    have HPL := Lib.hid (fun m : After wc => place_item B m.W q l xh (HL.out _ (below_then HB2.out HB2.out.size m.below)).list)
    have HP18 := Lib.hid (fun m : After wc => place18 m.W A n c l xh (HRI.out _ (below_then HB2.out HB2.out.size m.below)) (by omega))
    have aa : ∀ m : After wc, m.W.cell? ⟨w.heap.size, 1, none⟩ = some (.int .i64 xh) := fun m => (KA.out _ (below_then HB2.out HB2.out.size m.below)).2.1
    generalize placeB (l.map It.h) xh = pb at *
    rcases List.eq_nil_or_concat l with rfl | ⟨l0, y, rfl⟩
    · obtain rfl : n = 0 := HN.out
      have hgn : getL ([] : List It) xh = none := by unfold getL; split <;> simp
      simp only [hgn, List.getLast?_nil, Option.isSome_none, List.length_nil] at HLEN ⊢
      clear HK1 HK2 hgn
      have hcase : (decide (xh ≥ 0) = true ∧ decide (xh < 0) = false) ∨ decide (xh ≥ 0) = false := by
        by_cases hx : 0 ≤ xh
        · exact .inl ⟨decide_eq_true hx, decide_eq_false (by omega)⟩
        · exact .inr (decide_eq_false (by omega))
      rcases hcase with ⟨e1, e2⟩ | e1
      all_goals
        refine wp_region_after (by kernel_rfl) (by kernel_rfl) ?_
        repeat (any_goals (go_big_quiet_step ((first | (go_at_call 45; with_reducible exact call_same (HLEN.out _)) | (go_at_call 74; with_reducible exact call_after (HPL.out _)) | (go_at_call 98; with_reducible exact call_same (HP18.out _))))))
        refine wpQuiet_nil ?_
        rintro w' ⟨n1, rfl⟩
        go_wp2_with fail
        go_meet
        exact ⟨rfl, below_then HB2.out HB2.out.size n1.below⟩
    · rw [List.concat_eq_append] at *
      have hl0 : (l0 ++ [y]).length = l0.length + 1 := by simp
      have hnm : n = l0.length + 1 := by have := HN.out; omega
      subst hnm
      rw [hl0] at HLEN
      have hyl : (l0 ++ [y])[l0.length]? = some y := by simp
      have hlast : (l0 ++ [y]).getLast? = some y := by simp
      obtain ⟨g, rfl, -⟩ := (HL.out _ HB2.out).cells hyl
      have KY := Lib.hid (fun (j : Nat) (z : It) (hz : (l0 ++ [y])[j]? = some z) (W : World) (hW : Below w0.heap.size w0 W) => (show W.cell? ⟨g, j * 4, none⟩ = some (.int .i64 z.h) ∧ W.cell? ⟨g, j * 4 + 1, none⟩ = some (.int .i64 z.ns) ∧ W.cell? ⟨g, j * 4 + 2, none⟩ = some (.string z.name) ∧ W.cell? ⟨g, j * 4 + 3, none⟩ = some (.slice z.a z.n z.c) from by
        obtain ⟨g2, e, _, r⟩ := (HL.out _ hW).cells hz
        cases e
        exact r))
      have HSY := Lib.hid (fun k : After wc => same_item k.W y (HBARE.out y (by simp)))
      have v1 := HK1.out y hlast
      have y0 : ∀ n : After wc, n.W.cell? ⟨b1, 0, none⟩ = some (.int .i64 y.h) := fun n => (v1.keep n.below).cell 0
      have y1 : ∀ n : After wc, n.W.cell? ⟨b1, 1, none⟩ = some (.int .i64 y.ns) := fun n => (v1.keep n.below).cell 1
      have y2 : ∀ n : After wc, n.W.cell? ⟨b1, 2, none⟩ = some (.string y.name) := fun n => (v1.keep n.below).cell 2
      have y3 : ∀ n : After wc, n.W.cell? ⟨b1, 3, none⟩ = some (.slice y.a y.n y.c) := fun n => (v1.keep n.below).cell 3
      have g0 : ∀ n : After wc, n.W.cell? ⟨g, l0.length * 4, none⟩ = some (.int .i64 y.h) := fun n => (KY.out l0.length y hyl _ (below_then HB2.out HB2.out.size n.below)).1
      have g1 : ∀ n : After wc, n.W.cell? ⟨g, l0.length * 4 + 1, none⟩ = some (.int .i64 y.ns) := fun n => (KY.out l0.length y hyl _ (below_then HB2.out HB2.out.size n.below)).2.1
      have g2 : ∀ n : After wc, n.W.cell? ⟨g, l0.length * 4 + 2, none⟩ = some (.string y.name) := fun n => (KY.out l0.length y hyl _ (below_then HB2.out HB2.out.size n.below)).2.2.1
      have g3 : ∀ n : After wc, n.W.cell? ⟨g, l0.length * 4 + 3, none⟩ = some (.slice y.a y.n y.c) := fun n => (KY.out l0.length y hyl _ (below_then HB2.out HB2.out.size n.below)).2.2.2
      have s1 : IntKind.i64.wrap (((l0.length + 1 : Nat) : Int) - 1) = (l0.length : Int) := by rw [show ((l0.length + 1 : Nat) : Int) - 1 = (l0.length : Int) by omega]; exact IntWalk.i64_in _ (by omega)
      have s2 : IntKind.i64.wrap ((l0.length : Int)) = (l0.length : Int) := IntWalk.i64_in _ (by omega)
      have d1 : decide ((l0.length : Int) + 1 > 0) = true := decide_eq_true (by omega)
      have d2 : decide (((l0.length + 1 : Nat) : Int) > 0) = true := decide_eq_true (by omega)
      have i0 : (0 : Int) ≤ (l0.length : Int) := by omega
      have i1 : (l0.length : Int) < ((l0.length + 1 : Nat) : Int) := by omega
      have e1 : (l0.length : Int) + 1 - 1 = (l0.length : Int) := by omega
      have i4 : (l0.length : Int) < (l0.length : Int) + 1 := by omega
      simp only [hlast, Option.isSome_some]
      unfold val_item at HSY
      have HHL := Lib.hid hl0
      have HLL := Lib.hid hLl
      clear hyl hlast HK1 v1 hl0 hLl
      cases hg : getL (l0 ++ [y]) xh with
      | none =>
        have hcase : (decide (xh ≥ 0) = true ∧ decide (xh < ((l0.length + 1 : Nat) : Int)) = false ∧ decide (xh < (l0.length : Int) + 1) = false) ∨ decide (xh ≥ 0) = false := by
          have hn := getL_none hg
          rw [HHL.out] at hn
          by_cases hx : 0 ≤ xh
          · exact .inl ⟨decide_eq_true hx, decide_eq_false (by omega), decide_eq_false (by omega)⟩
          · exact .inr (decide_eq_false (by omega))
        simp only [Option.isSome_none]
        clear hg HK2
        rcases hcase with ⟨e2, e3, e4⟩ | e2
        all_goals
          refine wp_region_after (by kernel_rfl) (by kernel_rfl) ?_
          repeat (any_goals (go_big_quiet_step ((first | (go_at_call 45; with_reducible exact call_same (HLEN.out _)) | (go_at_call 74; with_reducible exact call_after (HPL.out _)) | (go_at_call 98; with_reducible exact call_same (HP18.out _)) | (go_at_call 47; with_reducible exact call_after (HSY.out _))))))
          refine wpQuiet_nil ?_
          rintro w' ⟨n1, rfl⟩
          go_wp2_with fail
          go_meet
          exact ⟨rfl, below_then HB2.out HB2.out.size n1.below⟩
      | some z =>
        obtain ⟨j, rfl, hj, hz⟩ := getL_some hg
        have v2 := HK2.out z hg
        have z0 : ∀ n : After wc, n.W.cell? ⟨b2, 0, none⟩ = some (.int .i64 z.h) := fun n => (v2.keep n.below).cell 0
        have z1 : ∀ n : After wc, n.W.cell? ⟨b2, 1, none⟩ = some (.int .i64 z.ns) := fun n => (v2.keep n.below).cell 1
        have z2 : ∀ n : After wc, n.W.cell? ⟨b2, 2, none⟩ = some (.string z.name) := fun n => (v2.keep n.below).cell 2
        have z3 : ∀ n : After wc, n.W.cell? ⟨b2, 3, none⟩ = some (.slice z.a z.n z.c) := fun n => (v2.keep n.below).cell 3
        have q0 : ∀ n : After wc, n.W.cell? ⟨g, j * 4, none⟩ = some (.int .i64 z.h) := fun n => (KY.out j z hz _ (below_then HB2.out HB2.out.size n.below)).1
        have q1 : ∀ n : After wc, n.W.cell? ⟨g, j * 4 + 1, none⟩ = some (.int .i64 z.ns) := fun n => (KY.out j z hz _ (below_then HB2.out HB2.out.size n.below)).2.1
        have q2 : ∀ n : After wc, n.W.cell? ⟨g, j * 4 + 2, none⟩ = some (.string z.name) := fun n => (KY.out j z hz _ (below_then HB2.out HB2.out.size n.below)).2.2.1
        have q3 : ∀ n : After wc, n.W.cell? ⟨g, j * 4 + 3, none⟩ = some (.slice z.a z.n z.c) := fun n => (KY.out j z hz _ (below_then HB2.out HB2.out.size n.below)).2.2.2
        have HSZ := Lib.hid (fun k : After wc => same_item k.W z (HBARE.out z (List.mem_of_getElem? hz)))
        unfold val_item at HSZ
        rw [HHL.out] at hj
        have e2 : decide ((j : Int) ≥ 0) = true := decide_eq_true (by omega)
        have e3 : decide ((j : Int) < ((l0.length + 1 : Nat) : Int)) = true := decide_eq_true (by omega)
        have e4 : decide ((j : Int) < (l0.length : Int) + 1) = true := decide_eq_true (by omega)
        have e5 : (0 : Int) ≤ (j : Int) := by omega
        have e6 : (j : Int) < ((l0.length + 1 : Nat) : Int) := by omega
        have e7 : (j : Int) < (l0.length : Int) + 1 := by omega
        simp only [Option.isSome_some]
        clear hg HK2 hz v2
        refine wp_region_after (by kernel_rfl) (by kernel_rfl) ?_
        repeat (any_goals (go_big_quiet_step ((first | (go_at_call 45; with_reducible exact call_same (HLEN.out _)) | (go_at_call 74; with_reducible exact call_after (HPL.out _)) | (go_at_call 98; with_reducible exact call_same (HP18.out _)) | (go_at_call 47; with_reducible exact call_after (HSY.out _)) | (go_at_call 47; with_reducible exact call_after (HSZ.out _))))))
        refine wpQuiet_nil ?_
        rintro w' ⟨n1, rfl⟩
        go_wp2_with fail
        go_meet
        exact ⟨rfl, below_then HB2.out HB2.out.size n1.below⟩
  case rest =>
    obtain ⟨rfl, HB3⟩ := hcut
    clear HK1 HK2 HB2
    go_wp2_with fail
    go_loopw [11, 12] (fun s11 s12 wr => ∃ i : Nat, i ≤ n ∧ s12 = .int .i64 i ∧ s11 = .bool ((l.take i).any (hasP nm)) ∧ Hid (Below w0.heap.size w0 wr)) (fun _ s12 _ => n - (intOf s12).toNat)
    case atStart => exact ⟨0, Nat.zero_le _, rfl, rfl, HB3.out⟩
    case round =>
      obtain ⟨i, hi, rfl, rfl, HB⟩ := hrel
      by_cases hlt : i < n
      · have d0 : decide ((i : Int) < (n : Int)) = true := decide_eq_true (by omega)
        obtain ⟨y, hy⟩ : ∃ y, l[i]? = some y := ⟨_, List.getElem?_eq_getElem (by have := HN.out; omega)⟩
        have hta := take_any (p := hasP nm) hy
        have HTA := Lib.hid hta
        have HA := Lib.hid (atL_item B wr q l (i : Int) (HL.out _ HB.out).list)
        rw [getL_nat, hy] at HA
        simp only [Option.elim, Option.isSome_some, val_item] at HA
        have s1 : IntKind.i64.wrap ((i : Int) + 1) = (i : Int) + 1 := IntWalk.i64_in _ (by omega)
        have i0 : (0 : Int) ≤ (i : Int) := by omega
        have i1 : (i : Int) < (n : Int) := by omega
        obtain ⟨g, rfl, -⟩ := (HL.out _ HB.out).cells hy
        have KY := Lib.hid (fun (W : World) (hW : Below w0.heap.size w0 W) => (show W.cell? ⟨g, i * 4, none⟩ = some (.int .i64 y.h) ∧ W.cell? ⟨g, i * 4 + 1, none⟩ = some (.int .i64 y.ns) ∧ W.cell? ⟨g, i * 4 + 2, none⟩ = some (.string y.name) ∧ W.cell? ⟨g, i * 4 + 3, none⟩ = some (.slice y.a y.n y.c) from by
          obtain ⟨g2, e, _, r⟩ := (HL.out _ hW).cells hy
          cases e
          exact r))
        have HSY := Lib.hid (fun W => same_item W y (HBARE.out y (List.mem_of_getElem? hy)))
        unfold val_item at HSY
        generalize (l.take i).any (hasP nm) = hs at *
        clear hy hta
        go_wp2_with fail
        refine HA.out.mono ?_
        rintro e w2 ⟨rfl, b2⟩
        have HV := Lib.hid (Blk.new w2 50 (enc_item y).toArray (0, 0))
        have HB4 := Lib.hid (made_alloc (below_then HB.out HB.out.size b2) (.cells (enc_item y).toArray 50))
        have hb4 : Below w0.heap.size w0 (w2.alloc (.cells (enc_item y).toArray 50)) := HB4.out
        obtain ⟨w3, hw3⟩ : ∃ w3, w3 = w2.alloc (.cells (enc_item y).toArray 50) := ⟨_, rfl⟩
        rw [← hw3] at HV HB4
        have HW3 := Lib.hid hw3.symm
        clear b2 hw3 hb4
        go_upto_region 10 with (fail)
        rw [show w2.alloc (.cells #[.int .i64 y.h, .int .i64 y.ns, .string y.name, .slice y.a y.n y.c] 50) = w3 from HW3.out]
        have y0 : ∀ n : After w3, n.W.cell? ⟨w2.heap.size, 0, none⟩ = some (.int .i64 y.h) := fun n => (HV.out.keep n.below).cell 0
        have y1 : ∀ n : After w3, n.W.cell? ⟨w2.heap.size, 1, none⟩ = some (.int .i64 y.ns) := fun n => (HV.out.keep n.below).cell 1
        have y2 : ∀ n : After w3, n.W.cell? ⟨w2.heap.size, 2, none⟩ = some (.string y.name) := fun n => (HV.out.keep n.below).cell 2
        have y3 : ∀ n : After w3, n.W.cell? ⟨w2.heap.size, 3, none⟩ = some (.slice y.a y.n y.c) := fun n => (HV.out.keep n.below).cell 3
        have g0 : ∀ n : After w3, n.W.cell? ⟨g, i * 4, none⟩ = some (.int .i64 y.h) := fun n => (KY.out _ (below_then HB4.out HB4.out.size n.below)).1
        have g1 : ∀ n : After w3, n.W.cell? ⟨g, i * 4 + 1, none⟩ = some (.int .i64 y.ns) := fun n => (KY.out _ (below_then HB4.out HB4.out.size n.below)).2.1
        have g2 : ∀ n : After w3, n.W.cell? ⟨g, i * 4 + 2, none⟩ = some (.string y.name) := fun n => (KY.out _ (below_then HB4.out HB4.out.size n.below)).2.2.1
        have g3 : ∀ n : After w3, n.W.cell? ⟨g, i * 4 + 3, none⟩ = some (.slice y.a y.n y.c) := fun n => (KY.out _ (below_then HB4.out HB4.out.size n.below)).2.2.2
        refine wp_region_after (by kernel_rfl) (by kernel_rfl) ?_
        repeat (any_goals (go_big_quiet_step ((go_at_call 47; with_reducible exact call_after (HSY.out _)))))
        refine wpQuiet_nil ?_
        rintro w' ⟨n1, rfl⟩
        have HB5 := Lib.hid (below_then HB4.out HB4.out.size n1.below)
        clear y0 y1 y2 y3 g0 g1 g2 g3
        generalize n1.W = w5 at *
        go_upto_region 12 with (fail)
        have HDB := Lib.hid (below_then HB5.out HB5.out.size (made_drew w5))
        obtain ⟨q0, q1, q2, q3⟩ := KY.out _ HDB.out
        obtain ⟨_, _, a2, _⟩ := KA.out _ HDB.out
        have HNM := HNM0
        obtain ⟨bn, hbn⟩ : ∃ z, hasP nm y = z := ⟨_, rfl⟩
        rw [hbn] at HTA
        have HIS := Lib.hid (fun W : World => (show Calls Try.prog 51 #[.agg #[.int .i64 y.h, .int .i64 y.ns, .string y.name, .slice y.a y.n y.c], .slice (some ⟨W.heap.size, 0, none⟩) 1 1] (W.alloc (.cells #[.string nm] 9)) fun e w' => e = .returned (.bool bn) ∧ Below (W.alloc (.cells #[.string nm] 9)).heap.size (W.alloc (.cells #[.string nm] 9)) w' from by
          have := is18 (W.alloc (.cells (strs [nm]).toArray 9)) y (some ⟨W.heap.size, 0, none⟩) 1 [nm] (rd_lit W 9 [nm]) (by show 1 ≤ _; omega)
          rw [hasP_is, hbn] at this
          exact this))
        clear hbn
        cases hs
        · first
            | go_region_with ((first
                | (go_at_call 16
                   refine (HNM.out _).mono ?_
                   rintro e w6 ⟨rfl, b6⟩
                   have HB6 := Lib.hid (below_then HDB.out HDB.out.size b6)
                   obtain ⟨r0, r1, r2, r3⟩ := KY.out _ HB6.out
                   obtain ⟨p0, p1, p2, p3⟩ := KY.out _ (made_alloc HB6.out (.cells #[.string nm] 9))
                   clear b6)
                | (go_at_call 51
                   refine (HIS.out w6).mono ?_
                   rintro e w7 ⟨rfl, b7⟩
                   have HB7 := Lib.hid (below_then (made_alloc HB6.out (.cells #[.string nm] 9)) (made_alloc HB6.out (.cells #[.string nm] 9)).size b7)
                   clear b7)))
            | fail
          all_goals
            go_wp2_with fail
            first
              | exact ⟨⟨i + 1, by omega, by go_num, by rw [HTA.out]; rfl, HB7.out⟩, by simp [intOf]; omega⟩
              | (go_roundw
                 case rel => exact ⟨i + 1, by omega, by go_num, by rw [HTA.out]; rfl, HB7.out⟩
                 case measure => simp [intOf]; omega)
        · clear q0 q1 q2 q3 a2
          refine wp_region_after (by kernel_rfl) (by kernel_rfl) ?_
          repeat (any_goals (go_big_quiet_step (fail)))
          refine wpQuiet_nil ?_
          rintro w' ⟨n2, rfl⟩
          go_wp2_with fail
          exact ⟨⟨i + 1, by omega, by go_num, by rw [HTA.out]; rfl, below_then HB5.out HB5.out.size n2.below⟩, by simp [intOf]; omega⟩
      · have d0 : decide ((i : Int) < (n : Int)) = false := decide_eq_false (by omega)
        have hti : l.take i = l := List.take_of_length_le (by have := HN.out; omega)
        rw [hti]
        have HNM := Lib.hid (HNM0.out wr)
        obtain ⟨_, _, a2, _⟩ := KA.out _ HB.out
        have HHS := Lib.hid (fun W (hW : Below w0.heap.size w0 W) => has_item B W q l nm (HL.out _ hW).list (by omega))
        generalize l.any (hasP nm) = hv at *
        clear hti
        go_wp2_with fail
        refine HNM.out.mono ?_
        rintro e w6 ⟨rfl, b6⟩
        have HB6 := Lib.hid (below_then HB.out HB.out.size b6)
        clear b6
        go_wp2_with fail
        refine (HHS.out _ HB6.out).mono ?_
        rintro e w7 ⟨rfl, b7⟩
        have HB7 := Lib.hid (below_then HB6.out HB6.out.size b7)
        clear b7
        go_wp2_with fail
        go_ret
        exact ⟨by simp, below_then HB0.out HB0.out.size HB7.out⟩
end Go.Proofs.Ytoehpladbdefkaa
