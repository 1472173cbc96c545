/- arbourlaw18.do (printed by wip/tools/gendo.py). -/
import Derived.Test.YtoehpladbdefkaaOpenDoL
import Derived.Deep.RegionHeld3
import Derived.Deep.RegionWith
namespace Go.Proofs.Ytoehpladbdefkaa
open Go.RowKit Go.BigFrame

set_option maxHeartbeats 8000000 in
set_option maxRecDepth 100000 in
theorem do6 (G : Nat → Prop) (B : Nat) (w : World) (q : Nat) (l : List It) (A : Option Addr) (n c : Nat) (xk xh xn xm : Int) (xs : Bool) (h : LG G B w q l (.slice A n c) l) (hbare : ∀ y ∈ l, bareI y) (hn : n = l.length) (hsz : n ≤ 100000) (hk : xk = 6) :
    Calls Try.prog 53 #[.pointer (some ⟨q, 0, none⟩), .slice A n c, .agg #[.int .i64 xk, .int .i64 xh, .int .i64 xn, .int .i64 xm, .bool xs]] w (DoOut G B w q n) := by
  obtain ⟨F, hP, hFl⟩ := Play.start (x := ⟨xk, xh, xn, xm, xs⟩) h
  obtain ⟨w0, hw0⟩ : ∃ w0, w0 = w.alloc (.cells (enc_as ⟨xk, xh, xn, xm, xs⟩).toArray 53) := ⟨_, rfl⟩
  rw [← hw0] at hP
  have HP := Lib.hid hP
  have HW0 := Lib.hid hw0.symm
  have HFL := Lib.hid hFl
  have HBARE := Lib.hid hbare
  have HN := Lib.hid hn
  have HNM := Lib.hid (fun (z : Int) (m : After w0) => names_keep z m.W)
  have a0 : ∀ m : After w0, m.W.cell? ⟨w.heap.size, 2, none⟩ = some (.int .i64 xn) := fun m => (var_bg (hP.box.keep m.below)).2.2.1
  have a1 : ∀ m : After w0, m.W.cell? ⟨w.heap.size, 3, none⟩ = some (.int .i64 xm) := fun m => (var_bg (hP.box.keep m.below)).2.2.2.1
  have f1 : (xk == 1) = false := by rw [hk]; decide
  have f2 : (xk == 2) = false := by rw [hk]; decide
  have f3 : (xk == 3) = false := by rw [hk]; decide
  have f4 : (xk == 4) = false := by rw [hk]; decide
  have f5 : (xk == 5) = false := by rw [hk]; decide
  have f6 : (xk == 6) = true := by rw [hk]; decide
  clear hk
  clear hP hw0 hFl hbare hn h
  go_enter Try.func53, Try.ntmps53
  go_upto_region 1 with (fail)
  rw [show w.alloc (.cells #[.int .i64 xk, .int .i64 xh, .int .i64 xn, .int .i64 xm, .bool xs] 53) = w0 from HW0.out]
  refine wp_region_after (by kernel_rfl) (by kernel_rfl) ?_
  repeat (any_goals (go_big_quiet_step ((go_at_call 16; with_reducible exact call_after (HNM.out _ _)))))
  refine wpQuiet_nil ?_
  rintro w' ⟨n1, rfl⟩
  have HP1 := Lib.hid (HP.out.keep n1.below)
  clear a0 a1 HP HNM
  generalize n1.W = w1 at *
  have HPL := Lib.hid (place18 w1 A n c l xh HP1.out.lm.rdI.1 (by omega))
  have hcc : n ≤ c := HP1.out.lm.rdI.2
  obtain ⟨b0, b1, b2, b3, b4⟩ := var_bg HP1.out.box
  generalize nameAt xn = na at *
  generalize nameAt xm = nb at *
  go_wp2_with fail
  refine HPL.out.mono ?_
  rintro e w2 ⟨rfl, rfl⟩
  go_upto_block 0 with (fail)
  go_cut [1, 10, 11] (fun s1 s10 s11 wx => s11 = .bool true ∧ ∃ A' n' c' l', s1 = .slice A' n' c' ∧ Hid (DoAt G B w wx q l' A' n' c' n ⟨xk, xh, xn, xm, xs⟩))
  case rest =>
    obtain ⟨rfl, A', n', c', l', rfl, HD⟩ := hcut
    have HTL := Lib.hid (tells18 B wc q l' A' n' c' ⟨xk, xh, xn, xm, xs⟩ HD.out.lm.lm HD.out.bare HD.out.len (by have := HD.out.small; omega))
    unfold val_as at HTL
    simp only at HTL
    clear b0 b1 b2 b3 b4
    obtain ⟨e0, e1, e2, e3, e4⟩ := var_bg HD.out.box
    go_wp2_with fail
    refine HTL.out.mono ?_
    rintro e w9 ⟨rfl, b9⟩
    have HD9 := Lib.hid (HD.out.keep b9)
    clear b9
    go_wp2_with fail
    go_ret2
    exact ⟨A', n', c', l', rfl, HD9.out.lm, HD9.out.bare, HD9.out.len, HD9.out.small, HD9.out.below, HD9.out.box.kept⟩
  case first =>
    have hba1 : Below w1.heap.size w1 (w1.alloc (.cells (strs [na, nb]).toArray 9)) := (Below.refl _ _).alloc (Nat.le_refl _) _
    have HPA := Lib.hid (HP1.out.keep hba1)
    have HDR := Lib.hid (until18 (w1.alloc (.cells (strs [na, nb]).toArray 9)) A n c l (some ⟨w1.heap.size, 0, none⟩) 2 [na, nb] HPA.out.lm.rdI.1 (rd_lit w1 9 [na, nb]) (by show 2 ≤ _; omega) hcc (by omega))
    clear hba1
    go_wp2_with fail
    refine HDR.out.mono ?_
    rintro e w3 ⟨rfl, b3', hpre⟩
    have hp3 := HPA.out.keep b3'
    have hba : Below w3.heap.size w3 (w3.alloc (.cells (strs [na, nb]).toArray 9)) := (Below.refl _ _).alloc (Nat.le_refl _) _
    have hlt : ∀ k, F k → k < w3.heap.size := fun k hk => by have := HFL.out k hk; have := hp3.b.size; omega
    have HP4 := Lib.hid (hp3.keep hba)
    have HPRE := Lib.hid hpre
    have HI := Lib.hid (until_item F (w3.alloc (.cells (strs [na, nb]).toArray 9)) q l (some ⟨w3.heap.size, 0, none⟩) 2 [na, nb] HP4.out.list (fun w' hw' => rd_names_but hlt hw') (by show 2 ≤ _; omega))
    generalize untilN [na, nb] l = un at *
    clear b3' hp3 hba hlt hpre b0 b1 b2 b3 b4
    go_wp2_with fail
    refine HI.out.mono ?_
    rintro e w5 ⟨rfl, hl5, hb5⟩
    obtain ⟨hm5, hB5, hx5⟩ := HP4.out.turn w5 _ F (fun k hk => .inl hk) hl5 hb5
    have HM5 := Lib.hid hm5
    have HB5 := Lib.hid hB5
    have HX5 := Lib.hid hx5
    clear hl5 hb5 hm5 hB5 hx5
    go_wp2_with fail
    go_meet
    exact ⟨by first | rfl | simp, A, _, c, _, rfl, ⟨HM5.out.prefix HPRE.out, fun y hy => HBARE.out y (HPRE.out.subset hy), rfl, by have := HPRE.out.length_le; have := HN.out; omega, HX5.out, HB5.out⟩⟩

set_option maxHeartbeats 8000000 in
set_option maxRecDepth 100000 in
theorem do2 (G : Nat → Prop) (B : Nat) (w : World) (q : Nat) (l : List It) (A : Option Addr) (n c : Nat) (xk xh xn xm : Int) (xs : Bool) (h : LG G B w q l (.slice A n c) l) (hbare : ∀ y ∈ l, bareI y) (hn : n = l.length) (hsz : n ≤ 100000) (hk : xk = 2) :
    Calls Try.prog 53 #[.pointer (some ⟨q, 0, none⟩), .slice A n c, .agg #[.int .i64 xk, .int .i64 xh, .int .i64 xn, .int .i64 xm, .bool xs]] w (DoOut G B w q n) := by
  obtain ⟨F, hP, hFl⟩ := Play.start (x := ⟨xk, xh, xn, xm, xs⟩) h
  obtain ⟨w0, hw0⟩ : ∃ w0, w0 = w.alloc (.cells (enc_as ⟨xk, xh, xn, xm, xs⟩).toArray 53) := ⟨_, rfl⟩
  rw [← hw0] at hP
  have HP := Lib.hid hP
  have HW0 := Lib.hid hw0.symm
  have HFL := Lib.hid hFl
  have HBARE := Lib.hid hbare
  have HN := Lib.hid hn
  have HNM := Lib.hid (fun (z : Int) (m : After w0) => names_keep z m.W)
  have a0 : ∀ m : After w0, m.W.cell? ⟨w.heap.size, 2, none⟩ = some (.int .i64 xn) := fun m => (var_bg (hP.box.keep m.below)).2.2.1
  have a1 : ∀ m : After w0, m.W.cell? ⟨w.heap.size, 3, none⟩ = some (.int .i64 xm) := fun m => (var_bg (hP.box.keep m.below)).2.2.2.1
  have f1 : (xk == 1) = false := by rw [hk]; decide
  have f2 : (xk == 2) = true := by rw [hk]; decide
  clear hk
  clear hP hw0 hFl hbare hn h
  go_enter Try.func53, Try.ntmps53
  go_upto_region 1 with (fail)
  rw [show w.alloc (.cells #[.int .i64 xk, .int .i64 xh, .int .i64 xn, .int .i64 xm, .bool xs] 53) = w0 from HW0.out]
  refine wp_region_after (by kernel_rfl) (by kernel_rfl) ?_
  repeat (any_goals (go_big_quiet_step ((go_at_call 16; with_reducible exact call_after (HNM.out _ _)))))
  refine wpQuiet_nil ?_
  rintro w' ⟨n1, rfl⟩
  have HP1 := Lib.hid (HP.out.keep n1.below)
  clear a0 a1 HP HNM
  generalize n1.W = w1 at *
  have HPL := Lib.hid (place18 w1 A n c l xh HP1.out.lm.rdI.1 (by omega))
  have hcc : n ≤ c := HP1.out.lm.rdI.2
  obtain ⟨b0, b1, b2, b3, b4⟩ := var_bg HP1.out.box
  generalize nameAt xn = na at *
  generalize nameAt xm = nb at *
  go_wp2_with fail
  refine HPL.out.mono ?_
  rintro e w2 ⟨rfl, rfl⟩
  go_upto_block 0 with (fail)
  go_cut [1, 10, 11] (fun s1 s10 s11 wx => s11 = .bool true ∧ ∃ A' n' c' l', s1 = .slice A' n' c' ∧ Hid (DoAt G B w wx q l' A' n' c' n ⟨xk, xh, xn, xm, xs⟩))
  case rest =>
    obtain ⟨rfl, A', n', c', l', rfl, HD⟩ := hcut
    have HTL := Lib.hid (tells18 B wc q l' A' n' c' ⟨xk, xh, xn, xm, xs⟩ HD.out.lm.lm HD.out.bare HD.out.len (by have := HD.out.small; omega))
    unfold val_as at HTL
    simp only at HTL
    clear b0 b1 b2 b3 b4
    obtain ⟨e0, e1, e2, e3, e4⟩ := var_bg HD.out.box
    go_wp2_with fail
    refine HTL.out.mono ?_
    rintro e w9 ⟨rfl, b9⟩
    have HD9 := Lib.hid (HD.out.keep b9)
    clear b9
    go_wp2_with fail
    go_ret2
    exact ⟨A', n', c', l', rfl, HD9.out.lm, HD9.out.bare, HD9.out.len, HD9.out.small, HD9.out.below, HD9.out.box.kept⟩
  case first =>
    rcases List.eq_nil_or_concat l with rfl | ⟨l0, y, rfl⟩
    · obtain rfl : n = 0 := HN.out
      have HI := Lib.hid (popF_none_item F w1 q HP1.out.list)
      go_wp2_with fail
      refine HI.out.mono ?_
      rintro e w3 ⟨rfl, b3'⟩
      have HP3 := Lib.hid (HP1.out.keep b3')
      clear b3' b0 b1 b2 b3 b4
      go_upto_region 10 with (fail)
      generalize hw4 : w3.alloc _ = w4 at *
      have HP4 := Lib.hid (HP3.out.keep (W1 := w4) (by rw [← hw4]; exact (Below.refl _ _).alloc (Nat.le_refl _) _))
      clear hw4
      refine wp_region_after (by kernel_rfl) (by kernel_rfl) ?_
      repeat (any_goals (go_big_quiet_step (fail)))
      refine wpQuiet_nil ?_
      rintro w' ⟨n2, rfl⟩
      have HP5 := Lib.hid (HP4.out.keep n2.below)
      go_wp2_with fail
      go_meet
      exact ⟨rfl, A, 0, c, [], rfl, ⟨HP5.out.lm, HBARE.out, rfl, by omega, HP5.out.box, (HP5.out.turn _ [] F (fun k hk => .inl hk) HP5.out.list (But.refl _ _)).2.1⟩⟩
    · rw [List.concat_eq_append] at *
      have hnm : n = l0.length + 1 := by have := HN.out; simpa using this
      subst hnm
      have HI := Lib.hid (popF_item F w1 q l0 y HP1.out.list)
      have hyl : (l0 ++ [y])[l0.length]? = some y := by simp
      have HYL := Lib.hid hyl
      unfold val_item at HI
      clear hyl
      go_wp2_with fail
      refine HI.out.mono ?_
      rintro e w3 ⟨rfl, hl3, hb3⟩
      obtain ⟨hm3, hB3, hx3⟩ := HP1.out.turn w3 _ F (fun k hk => .inl hk) hl3 hb3
      have hba : Below w3.heap.size w3 (w3.alloc (.cells (enc_item y).toArray 50)) := (Below.refl _ _).alloc (Nat.le_refl _) _
      have HV := Lib.hid (Blk.new w3 50 (enc_item y).toArray (0, 0))
      have HM4 := Lib.hid (hm3.keep hba)
      have HX4 := Lib.hid (hx3.keep hba)
      have HB4 := Lib.hid (hB3.trans (hba.mono hm3.le))
      obtain ⟨w4, hw4⟩ : ∃ w4, w4 = w3.alloc (.cells (enc_item y).toArray 50) := ⟨_, rfl⟩
      rw [← hw4] at HV HM4 HX4 HB4
      have HW4 := Lib.hid hw4.symm
      clear hl3 hb3 hm3 hB3 hx3 hba b0 b1 b2 b3 b4 hw4
      go_upto_region 10 with (fail)
      rw [show w3.alloc (.cells #[.int .i64 y.h, .int .i64 y.ns, .string y.name, .slice y.a y.n y.c] 50) = w4 from HW4.out]
      obtain ⟨g, rfl, -⟩ := HM4.out.cells HYL.out
      have KY := Lib.hid (fun (W : World) (hW : Below w4.heap.size w4 W) => (show W.cell? ⟨g, l0.length * 4, none⟩ = some (.int .i64 y.h) ∧ W.cell? ⟨g, l0.length * 4 + 1, none⟩ = some (.int .i64 y.ns) ∧ W.cell? ⟨g, l0.length * 4 + 2, none⟩ = some (.string y.name) ∧ W.cell? ⟨g, l0.length * 4 + 3, none⟩ = some (.slice y.a y.n y.c) from by
        obtain ⟨g2, e, _, r⟩ := (HM4.out.keep hW).cells HYL.out
        cases e
        exact r))
      have HSY := Lib.hid (fun m : After w4 => same_item m.W y (HBARE.out y (by simp)))
      unfold val_item at HSY
      have y0 : ∀ n : After w4, n.W.cell? ⟨w3.heap.size, 0, none⟩ = some (.int .i64 y.h) := fun n => (HV.out.keep n.below).cell 0
      have y1 : ∀ n : After w4, n.W.cell? ⟨w3.heap.size, 1, none⟩ = some (.int .i64 y.ns) := fun n => (HV.out.keep n.below).cell 1
      have y2 : ∀ n : After w4, n.W.cell? ⟨w3.heap.size, 2, none⟩ = some (.string y.name) := fun n => (HV.out.keep n.below).cell 2
      have y3 : ∀ n : After w4, n.W.cell? ⟨w3.heap.size, 3, none⟩ = some (.slice y.a y.n y.c) := fun n => (HV.out.keep n.below).cell 3
      have g0 : ∀ n : After w4, n.W.cell? ⟨g, l0.length * 4, none⟩ = some (.int .i64 y.h) := fun n => (KY.out _ n.below).1
      have g1 : ∀ n : After w4, n.W.cell? ⟨g, l0.length * 4 + 1, none⟩ = some (.int .i64 y.ns) := fun n => (KY.out _ n.below).2.1
      have g2 : ∀ n : After w4, n.W.cell? ⟨g, l0.length * 4 + 2, none⟩ = some (.string y.name) := fun n => (KY.out _ n.below).2.2.1
      have g3 : ∀ n : After w4, n.W.cell? ⟨g, l0.length * 4 + 3, none⟩ = some (.slice y.a y.n y.c) := fun n => (KY.out _ n.below).2.2.2
      have s1 : IntKind.i64.wrap (((l0.length + 1 : Nat) : Int) - 1) = (l0.length : Int) := by rw [show ((l0.length + 1 : Nat) : Int) - 1 = (l0.length : Int) by omega]; exact IntWalk.i64_in _ (by omega)
      have s2 : IntKind.i64.wrap ((l0.length : Int)) = (l0.length : Int) := IntWalk.i64_in _ (by omega)
      have d1 : decide ((l0.length : Int) + 1 > 0) = true := decide_eq_true (by omega)
      have d2 : decide (((l0.length + 1 : Nat) : Int) > 0) = true := decide_eq_true (by omega)
      have i0 : (0 : Int) ≤ (l0.length : Int) := by omega
      have i1 : (l0.length : Int) < ((l0.length + 1 : Nat) : Int) := by omega
      have e1 : (l0.length : Int) + 1 - 1 = (l0.length : Int) := by omega
      have i4 : (l0.length : Int) < (l0.length : Int) + 1 := by omega
      have i2 : (l0.length : Int) ≤ (c : Int) := by omega
      have i3 : l0.length ≤ c := by omega
      refine wp_region_after (by kernel_rfl) (by kernel_rfl) ?_
      repeat (any_goals (go_big_quiet_step ((go_at_call 47; with_reducible exact call_after (HSY.out _)))))
      refine wpQuiet_nil ?_
      rintro w' ⟨n2, rfl⟩
      have HM5 := Lib.hid (HM4.out.keep n2.below)
      have HX5 := Lib.hid (HX4.out.keep n2.below)
      have HB5 := Lib.hid (HB4.out.trans (n2.below.mono HM4.out.le))
      clear y0 y1 y2 y3 g0 g1 g2 g3
      generalize n2.W = w5 at *
      go_wp2_with fail
      go_meet
      exact ⟨rfl, _, l0.length, c, l0, rfl, ⟨HM5.out.prefix (List.prefix_append _ _), fun z hz => HBARE.out z (by simp [hz]), rfl, by omega, HX5.out, HB5.out⟩⟩

set_option maxHeartbeats 8000000 in
set_option maxRecDepth 100000 in
theorem doOther (G : Nat → Prop) (B : Nat) (w : World) (q : Nat) (l : List It) (A : Option Addr) (n c : Nat) (xk xh xn xm : Int) (xs : Bool) (h : LG G B w q l (.slice A n c) l) (hbare : ∀ y ∈ l, bareI y) (hn : n = l.length) (hsz : n ≤ 100000) (hk : ¬ (1 ≤ xk ∧ xk ≤ 10)) :
    Calls Try.prog 53 #[.pointer (some ⟨q, 0, none⟩), .slice A n c, .agg #[.int .i64 xk, .int .i64 xh, .int .i64 xn, .int .i64 xm, .bool xs]] w (DoOut G B w q n) := by
  obtain ⟨F, hP, hFl⟩ := Play.start (x := ⟨xk, xh, xn, xm, xs⟩) h
  obtain ⟨w0, hw0⟩ : ∃ w0, w0 = w.alloc (.cells (enc_as ⟨xk, xh, xn, xm, xs⟩).toArray 53) := ⟨_, rfl⟩
  rw [← hw0] at hP
  have HP := Lib.hid hP
  have HW0 := Lib.hid hw0.symm
  have HFL := Lib.hid hFl
  have HBARE := Lib.hid hbare
  have HN := Lib.hid hn
  have HNM := Lib.hid (fun (z : Int) (m : After w0) => names_keep z m.W)
  have a0 : ∀ m : After w0, m.W.cell? ⟨w.heap.size, 2, none⟩ = some (.int .i64 xn) := fun m => (var_bg (hP.box.keep m.below)).2.2.1
  have a1 : ∀ m : After w0, m.W.cell? ⟨w.heap.size, 3, none⟩ = some (.int .i64 xm) := fun m => (var_bg (hP.box.keep m.below)).2.2.2.1
  have f1 : (xk == 1) = false := by rw [beq_eq_false_iff_ne]; intro e; exact hk (by omega)
  have f2 : (xk == 2) = false := by rw [beq_eq_false_iff_ne]; intro e; exact hk (by omega)
  have f3 : (xk == 3) = false := by rw [beq_eq_false_iff_ne]; intro e; exact hk (by omega)
  have f4 : (xk == 4) = false := by rw [beq_eq_false_iff_ne]; intro e; exact hk (by omega)
  have f5 : (xk == 5) = false := by rw [beq_eq_false_iff_ne]; intro e; exact hk (by omega)
  have f6 : (xk == 6) = false := by rw [beq_eq_false_iff_ne]; intro e; exact hk (by omega)
  have f7 : (xk == 7) = false := by rw [beq_eq_false_iff_ne]; intro e; exact hk (by omega)
  have f8 : (xk == 8) = false := by rw [beq_eq_false_iff_ne]; intro e; exact hk (by omega)
  have f9 : (xk == 9) = false := by rw [beq_eq_false_iff_ne]; intro e; exact hk (by omega)
  have f10 : (xk == 10) = false := by rw [beq_eq_false_iff_ne]; intro e; exact hk (by omega)
  clear hP hw0 hFl hbare hn h
  go_enter Try.func53, Try.ntmps53
  go_upto_region 1 with (fail)
  rw [show w.alloc (.cells #[.int .i64 xk, .int .i64 xh, .int .i64 xn, .int .i64 xm, .bool xs] 53) = w0 from HW0.out]
  refine wp_region_after (by kernel_rfl) (by kernel_rfl) ?_
  repeat (any_goals (go_big_quiet_step ((go_at_call 16; with_reducible exact call_after (HNM.out _ _)))))
  refine wpQuiet_nil ?_
  rintro w' ⟨n1, rfl⟩
  have HP1 := Lib.hid (HP.out.keep n1.below)
  clear a0 a1 HP HNM
  generalize n1.W = w1 at *
  have HPL := Lib.hid (place18 w1 A n c l xh HP1.out.lm.rdI.1 (by omega))
  have hcc : n ≤ c := HP1.out.lm.rdI.2
  obtain ⟨b0, b1, b2, b3, b4⟩ := var_bg HP1.out.box
  generalize nameAt xn = na at *
  generalize nameAt xm = nb at *
  go_wp2_with fail
  refine HPL.out.mono ?_
  rintro e w2 ⟨rfl, rfl⟩
  go_upto_block 0 with (fail)
  go_cut [1, 10, 11] (fun s1 s10 s11 wx => s11 = .bool true ∧ ∃ A' n' c' l', s1 = .slice A' n' c' ∧ Hid (DoAt G B w wx q l' A' n' c' n ⟨xk, xh, xn, xm, xs⟩))
  case rest =>
    obtain ⟨rfl, A', n', c', l', rfl, HD⟩ := hcut
    have HTL := Lib.hid (tells18 B wc q l' A' n' c' ⟨xk, xh, xn, xm, xs⟩ HD.out.lm.lm HD.out.bare HD.out.len (by have := HD.out.small; omega))
    unfold val_as at HTL
    simp only at HTL
    clear b0 b1 b2 b3 b4
    obtain ⟨e0, e1, e2, e3, e4⟩ := var_bg HD.out.box
    go_wp2_with fail
    refine HTL.out.mono ?_
    rintro e w9 ⟨rfl, b9⟩
    have HD9 := Lib.hid (HD.out.keep b9)
    clear b9
    go_wp2_with fail
    go_ret2
    exact ⟨A', n', c', l', rfl, HD9.out.lm, HD9.out.bare, HD9.out.len, HD9.out.small, HD9.out.below, HD9.out.box.kept⟩
  case first =>
    go_wp2_with fail
    go_meet
    exact ⟨rfl, A, n, c, l, rfl, ⟨HP1.out.lm, HBARE.out, HN.out, by omega, HP1.out.box, (HP1.out.turn w1 l F (fun k hk => .inl hk) HP1.out.list (But.refl _ _)).2.1⟩⟩
end Go.Proofs.Ytoehpladbdefkaa

