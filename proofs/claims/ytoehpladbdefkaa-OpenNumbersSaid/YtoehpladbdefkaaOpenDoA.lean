/- arbourlaw18.do (printed by wip/tools/gendo.py). -/
import Derived.Test.YtoehpladbdefkaaOpenDoL
import Derived.Deep.RegionHeld3
import Derived.Deep.RegionWith
namespace Go.Proofs.Ytoehpladbdefkaa
open Go.RowKit Go.BigFrame

set_option maxHeartbeats 8000000 in
set_option maxRecDepth 100000 in
theorem do7 (G : Nat → Prop) (B : Nat) (w : World) (q : Nat) (l : List It) (A : Option Addr) (n c : Nat) (xk xh xn xm : Int) (xs : Bool) (h : LG G B w q l (.slice A n c) l) (hbare : ∀ y ∈ l, bareI y) (hn : n = l.length) (hsz : n ≤ 100000) (hk : xk = 7) :
    Calls Try.prog 53 #[.pointer (some ⟨q, 0, none⟩), .slice A n c, .agg #[.int .i64 xk, .int .i64 xh, .int .i64 xn, .int .i64 xm, .bool xs]] w (DoOut G B w q n) := by
  obtain ⟨F, hP, hFl⟩ := Play.start (x := ⟨xk, xh, xn, xm, xs⟩) h
  obtain ⟨w0, hw0⟩ : ∃ w0, w0 = w.alloc (.cells (enc_as ⟨xk, xh, xn, xm, xs⟩).toArray 53) := ⟨_, rfl⟩
  rw [← hw0] at hP
  have HP := Lib.hid hP
  have HW0 := Lib.hid hw0.symm
  have HFL := Lib.hid hFl
  have HBARE := Lib.hid hbare
  have HN := Lib.hid hn
  have HNM := Lib.hid (fun (z : Int) (m : After w0) => names_keep z m.W)
  have a0 : ∀ m : After w0, m.W.cell? ⟨w.heap.size, 2, none⟩ = some (.int .i64 xn) := fun m => (var_bg (hP.box.keep m.below)).2.2.1
  have a1 : ∀ m : After w0, m.W.cell? ⟨w.heap.size, 3, none⟩ = some (.int .i64 xm) := fun m => (var_bg (hP.box.keep m.below)).2.2.2.1
  have f1 : (xk == 1) = false := by rw [hk]; decide
  have f2 : (xk == 2) = false := by rw [hk]; decide
  have f3 : (xk == 3) = false := by rw [hk]; decide
  have f4 : (xk == 4) = false := by rw [hk]; decide
  have f5 : (xk == 5) = false := by rw [hk]; decide
  have f6 : (xk == 6) = false := by rw [hk]; decide
  have f7 : (xk == 7) = true := by rw [hk]; decide
  clear hk
  clear hP hw0 hFl hbare hn h
  go_enter Try.func53, Try.ntmps53
  go_upto_region 1 with (fail)
  rw [show w.alloc (.cells #[.int .i64 xk, .int .i64 xh, .int .i64 xn, .int .i64 xm, .bool xs] 53) = w0 from HW0.out]
  refine wp_region_after (by kernel_rfl) (by kernel_rfl) ?_
  repeat (any_goals (go_big_quiet_step ((go_at_call 16; with_reducible exact call_after (HNM.out _ _)))))
  refine wpQuiet_nil ?_
  rintro w' ⟨n1, rfl⟩
  have HP1 := Lib.hid (HP.out.keep n1.below)
  clear a0 a1 HP HNM
  generalize n1.W = w1 at *
  have HPL := Lib.hid (place18 w1 A n c l xh HP1.out.lm.rdI.1 (by omega))
  have hcc : n ≤ c := HP1.out.lm.rdI.2
  obtain ⟨b0, b1, b2, b3, b4⟩ := var_bg HP1.out.box
  generalize nameAt xn = na at *
  generalize nameAt xm = nb at *
  go_wp2_with fail
  refine HPL.out.mono ?_
  rintro e w2 ⟨rfl, rfl⟩
  go_upto_block 0 with (fail)
  go_cut [1, 10, 11] (fun s1 s10 s11 wx => s11 = .bool true ∧ ∃ A' n' c' l', s1 = .slice A' n' c' ∧ Hid (DoAt G B w wx q l' A' n' c' n ⟨xk, xh, xn, xm, xs⟩))
  case rest =>
    obtain ⟨rfl, A', n', c', l', rfl, HD⟩ := hcut
    have HTL := Lib.hid (tells18 B wc q l' A' n' c' ⟨xk, xh, xn, xm, xs⟩ HD.out.lm.lm HD.out.bare HD.out.len (by have := HD.out.small; omega))
    unfold val_as at HTL
    simp only at HTL
    clear b0 b1 b2 b3 b4
    obtain ⟨e0, e1, e2, e3, e4⟩ := var_bg HD.out.box
    go_wp2_with fail
    refine HTL.out.mono ?_
    rintro e w9 ⟨rfl, b9⟩
    have HD9 := Lib.hid (HD.out.keep b9)
    clear b9
    go_wp2_with fail
    go_ret2
    exact ⟨A', n', c', l', rfl, HD9.out.lm, HD9.out.bare, HD9.out.len, HD9.out.small, HD9.out.below, HD9.out.box.kept⟩
  case first =>
    have HI := Lib.hid (imply_item F w1 q l na HP1.out.list)
    go_wp2_with fail
    refine HI.out.mono ?_
    rintro e w3 ⟨rfl, hl3, hb3⟩
    obtain ⟨hm3, hB3, hx3⟩ := HP1.out.turn w3 _ F (fun k hk => .inl hk) hl3 hb3
    have hba : Below w3.heap.size w3 (w3.alloc (.cells (strs [na]).toArray 9)) := (Below.refl _ _).alloc (Nat.le_refl _) _
    have HDR := Lib.hid (drop7_18 (w3.alloc (.cells (strs [na]).toArray 9)) A n c l (some ⟨w3.heap.size, 0, none⟩) 1 na (hm3.keep hba).rdI.1 (rd_lit w3 9 [na]) hcc (by omega))
    have HM3 := Lib.hid hm3
    have HB3 := Lib.hid hB3
    have HX3 := Lib.hid hx3
    have HBA := Lib.hid hba
    clear hl3 hb3 hm3 hB3 hx3 hba b0 b1 b2 b3 b4
    go_wp2_with fail
    refine HDR.out.mono ?_
    rintro e w4 ⟨rfl, b4, hpre⟩
    have HB4 := Lib.hid (below_then HBA.out HBA.out.size b4)
    have HPRE := Lib.hid hpre
    clear b4 hpre
    go_wp2_with fail
    go_meet
    exact ⟨rfl, A, _, c, _, rfl, ⟨(HM3.out.keep HB4.out).prefix HPRE.out, fun y hy => HBARE.out y (HPRE.out.subset hy), rfl, by have := HPRE.out.length_le; have := HN.out; omega, HX3.out.keep HB4.out, HB3.out.trans (HB4.out.mono HM3.out.le)⟩⟩

set_option maxHeartbeats 8000000 in
set_option maxRecDepth 100000 in
theorem do8 (G : Nat → Prop) (B : Nat) (w : World) (q : Nat) (l : List It) (A : Option Addr) (n c : Nat) (xk xh xn xm : Int) (xs : Bool) (h : LG G B w q l (.slice A n c) l) (hbare : ∀ y ∈ l, bareI y) (hn : n = l.length) (hsz : n ≤ 100000) (hk : xk = 8) :
    Calls Try.prog 53 #[.pointer (some ⟨q, 0, none⟩), .slice A n c, .agg #[.int .i64 xk, .int .i64 xh, .int .i64 xn, .int .i64 xm, .bool xs]] w (DoOut G B w q n) := by
  obtain ⟨F, hP, hFl⟩ := Play.start (x := ⟨xk, xh, xn, xm, xs⟩) h
  obtain ⟨w0, hw0⟩ : ∃ w0, w0 = w.alloc (.cells (enc_as ⟨xk, xh, xn, xm, xs⟩).toArray 53) := ⟨_, rfl⟩
  rw [← hw0] at hP
  have HP := Lib.hid hP
  have HW0 := Lib.hid hw0.symm
  have HFL := Lib.hid hFl
  have HBARE := Lib.hid hbare
  have HN := Lib.hid hn
  have HNM := Lib.hid (fun (z : Int) (m : After w0) => names_keep z m.W)
  have a0 : ∀ m : After w0, m.W.cell? ⟨w.heap.size, 2, none⟩ = some (.int .i64 xn) := fun m => (var_bg (hP.box.keep m.below)).2.2.1
  have a1 : ∀ m : After w0, m.W.cell? ⟨w.heap.size, 3, none⟩ = some (.int .i64 xm) := fun m => (var_bg (hP.box.keep m.below)).2.2.2.1
  have f1 : (xk == 1) = false := by rw [hk]; decide
  have f2 : (xk == 2) = false := by rw [hk]; decide
  have f3 : (xk == 3) = false := by rw [hk]; decide
  have f4 : (xk == 4) = false := by rw [hk]; decide
  have f5 : (xk == 5) = false := by rw [hk]; decide
  have f6 : (xk == 6) = false := by rw [hk]; decide
  have f7 : (xk == 7) = false := by rw [hk]; decide
  have f8 : (xk == 8) = true := by rw [hk]; decide
  clear hk
  clear hP hw0 hFl hbare hn h
  go_enter Try.func53, Try.ntmps53
  go_upto_region 1 with (fail)
  rw [show w.alloc (.cells #[.int .i64 xk, .int .i64 xh, .int .i64 xn, .int .i64 xm, .bool xs] 53) = w0 from HW0.out]
  refine wp_region_after (by kernel_rfl) (by kernel_rfl) ?_
  repeat (any_goals (go_big_quiet_step ((go_at_call 16; with_reducible exact call_after (HNM.out _ _)))))
  refine wpQuiet_nil ?_
  rintro w' ⟨n1, rfl⟩
  have HP1 := Lib.hid (HP.out.keep n1.below)
  clear a0 a1 HP HNM
  generalize n1.W = w1 at *
  have HPL := Lib.hid (place18 w1 A n c l xh HP1.out.lm.rdI.1 (by omega))
  have hcc : n ≤ c := HP1.out.lm.rdI.2
  obtain ⟨b0, b1, b2, b3, b4⟩ := var_bg HP1.out.box
  generalize nameAt xn = na at *
  generalize nameAt xm = nb at *
  go_wp2_with fail
  refine HPL.out.mono ?_
  rintro e w2 ⟨rfl, rfl⟩
  go_upto_block 0 with (fail)
  go_cut [1, 10, 11] (fun s1 s10 s11 wx => s11 = .bool true ∧ ∃ A' n' c' l', s1 = .slice A' n' c' ∧ Hid (DoAt G B w wx q l' A' n' c' n ⟨xk, xh, xn, xm, xs⟩))
  case rest =>
    obtain ⟨rfl, A', n', c', l', rfl, HD⟩ := hcut
    have HTL := Lib.hid (tells18 B wc q l' A' n' c' ⟨xk, xh, xn, xm, xs⟩ HD.out.lm.lm HD.out.bare HD.out.len (by have := HD.out.small; omega))
    unfold val_as at HTL
    simp only at HTL
    clear b0 b1 b2 b3 b4
    obtain ⟨e0, e1, e2, e3, e4⟩ := var_bg HD.out.box
    go_wp2_with fail
    refine HTL.out.mono ?_
    rintro e w9 ⟨rfl, b9⟩
    have HD9 := Lib.hid (HD.out.keep b9)
    clear b9
    go_wp2_with fail
    go_ret2
    exact ⟨A', n', c', l', rfl, HD9.out.lm, HD9.out.bare, HD9.out.len, HD9.out.small, HD9.out.below, HD9.out.box.kept⟩
  case first =>
    have HI := Lib.hid (thorough_item F w1 q l HP1.out.list)
    go_wp2_with fail
    refine HI.out.mono ?_
    rintro e w3 ⟨rfl, hl3, hb3⟩
    obtain ⟨hm3, hB3, hx3⟩ := HP1.out.turn w3 _ F (fun k hk => .inl hk) hl3 hb3
    have HDR := Lib.hid (drop8_18 w3 A n c l hm3.rdI.1 hcc (by omega))
    have HM3 := Lib.hid hm3
    have HB3 := Lib.hid hB3
    have HX3 := Lib.hid hx3
    clear hl3 hb3 hm3 hB3 hx3 b0 b1 b2 b3 b4
    go_wp2_with fail
    refine HDR.out.mono ?_
    rintro e w4 ⟨rfl, b4, hpre⟩
    have HB4 := Lib.hid b4
    have HPRE := Lib.hid hpre
    clear b4 hpre
    go_wp2_with fail
    go_meet
    exact ⟨rfl, A, _, c, _, rfl, ⟨(HM3.out.keep HB4.out).prefix HPRE.out, fun y hy => HBARE.out y (HPRE.out.subset hy), rfl, by have := HPRE.out.length_le; have := HN.out; omega, HX3.out.keep HB4.out, HB3.out.trans (HB4.out.mono HM3.out.le)⟩⟩

set_option maxHeartbeats 8000000 in
set_option maxRecDepth 100000 in
theorem do9 (G : Nat → Prop) (B : Nat) (w : World) (q : Nat) (l : List It) (A : Option Addr) (n c : Nat) (xk xh xn xm : Int) (xs : Bool) (h : LG G B w q l (.slice A n c) l) (hbare : ∀ y ∈ l, bareI y) (hn : n = l.length) (hsz : n ≤ 100000) (hk : xk = 9) :
    Calls Try.prog 53 #[.pointer (some ⟨q, 0, none⟩), .slice A n c, .agg #[.int .i64 xk, .int .i64 xh, .int .i64 xn, .int .i64 xm, .bool xs]] w (DoOut G B w q n) := by
  obtain ⟨F, hP, hFl⟩ := Play.start (x := ⟨xk, xh, xn, xm, xs⟩) h
  obtain ⟨w0, hw0⟩ : ∃ w0, w0 = w.alloc (.cells (enc_as ⟨xk, xh, xn, xm, xs⟩).toArray 53) := ⟨_, rfl⟩
  rw [← hw0] at hP
  have HP := Lib.hid hP
  have HW0 := Lib.hid hw0.symm
  have HFL := Lib.hid hFl
  have HBARE := Lib.hid hbare
  have HN := Lib.hid hn
  have HNM := Lib.hid (fun (z : Int) (m : After w0) => names_keep z m.W)
  have a0 : ∀ m : After w0, m.W.cell? ⟨w.heap.size, 2, none⟩ = some (.int .i64 xn) := fun m => (var_bg (hP.box.keep m.below)).2.2.1
  have a1 : ∀ m : After w0, m.W.cell? ⟨w.heap.size, 3, none⟩ = some (.int .i64 xm) := fun m => (var_bg (hP.box.keep m.below)).2.2.2.1
  have f1 : (xk == 1) = false := by rw [hk]; decide
  have f2 : (xk == 2) = false := by rw [hk]; decide
  have f3 : (xk == 3) = false := by rw [hk]; decide
  have f4 : (xk == 4) = false := by rw [hk]; decide
  have f5 : (xk == 5) = false := by rw [hk]; decide
  have f6 : (xk == 6) = false := by rw [hk]; decide
  have f7 : (xk == 7) = false := by rw [hk]; decide
  have f8 : (xk == 8) = false := by rw [hk]; decide
  have f9 : (xk == 9) = true := by rw [hk]; decide
  clear hk
  clear hP hw0 hFl hbare hn h
  go_enter Try.func53, Try.ntmps53
  go_upto_region 1 with (fail)
  rw [show w.alloc (.cells #[.int .i64 xk, .int .i64 xh, .int .i64 xn, .int .i64 xm, .bool xs] 53) = w0 from HW0.out]
  refine wp_region_after (by kernel_rfl) (by kernel_rfl) ?_
  repeat (any_goals (go_big_quiet_step ((go_at_call 16; with_reducible exact call_after (HNM.out _ _)))))
  refine wpQuiet_nil ?_
  rintro w' ⟨n1, rfl⟩
  have HP1 := Lib.hid (HP.out.keep n1.below)
  clear a0 a1 HP HNM
  generalize n1.W = w1 at *
  have HPL := Lib.hid (place18 w1 A n c l xh HP1.out.lm.rdI.1 (by omega))
  have hcc : n ≤ c := HP1.out.lm.rdI.2
  obtain ⟨b0, b1, b2, b3, b4⟩ := var_bg HP1.out.box
  generalize nameAt xn = na at *
  generalize nameAt xm = nb at *
  go_wp2_with fail
  refine HPL.out.mono ?_
  rintro e w2 ⟨rfl, rfl⟩
  go_upto_block 0 with (fail)
  go_cut [1, 10, 11] (fun s1 s10 s11 wx => s11 = .bool true ∧ ∃ A' n' c' l', s1 = .slice A' n' c' ∧ Hid (DoAt G B w wx q l' A' n' c' n ⟨xk, xh, xn, xm, xs⟩))
  case rest =>
    obtain ⟨rfl, A', n', c', l', rfl, HD⟩ := hcut
    have HTL := Lib.hid (tells18 B wc q l' A' n' c' ⟨xk, xh, xn, xm, xs⟩ HD.out.lm.lm HD.out.bare HD.out.len (by have := HD.out.small; omega))
    unfold val_as at HTL
    simp only at HTL
    clear b0 b1 b2 b3 b4
    obtain ⟨e0, e1, e2, e3, e4⟩ := var_bg HD.out.box
    go_wp2_with fail
    refine HTL.out.mono ?_
    rintro e w9 ⟨rfl, b9⟩
    have HD9 := Lib.hid (HD.out.keep b9)
    clear b9
    go_wp2_with fail
    go_ret2
    exact ⟨A', n', c', l', rfl, HD9.out.lm, HD9.out.bare, HD9.out.len, HD9.out.small, HD9.out.below, HD9.out.box.kept⟩
  case first =>
    have hba1 : Below w1.heap.size w1 (w1.alloc (.cells (strs [na, nb]).toArray 9)) := (Below.refl _ _).alloc (Nat.le_refl _) _
    have hlt : ∀ k, F k → k < w1.heap.size := fun k hk => by have := HFL.out k hk; have := HP1.out.b.size; omega
    have HPA := Lib.hid (HP1.out.keep hba1)
    have HI := Lib.hid (clear_item F (w1.alloc (.cells (strs [na, nb]).toArray 9)) q l (some ⟨w1.heap.size, 0, none⟩) 2 [na, nb] HPA.out.list (fun w' hw' => rd_names_but hlt hw') (by show 2 ≤ _; omega))
    clear hba1 hlt
    go_wp2_with fail
    refine HI.out.mono ?_
    rintro e w3 ⟨rfl, hl3, hb3⟩
    obtain ⟨hm3, hB3, hx3⟩ := HPA.out.turn w3 _ F (fun k hk => .inl hk) hl3 hb3
    have hba : Below w3.heap.size w3 (w3.alloc (.cells (strs [na, nb]).toArray 9)) := (Below.refl _ _).alloc (Nat.le_refl _) _
    have HDR := Lib.hid (drop9_18 (w3.alloc (.cells (strs [na, nb]).toArray 9)) A n c l (some ⟨w3.heap.size, 0, none⟩) 2 [na, nb] (hm3.keep hba).rdI.1 (rd_lit w3 9 [na, nb]) (by show 2 ≤ _; omega) hcc (by omega))
    have HM3 := Lib.hid hm3
    have HB3 := Lib.hid hB3
    have HX3 := Lib.hid hx3
    have HBA := Lib.hid hba
    clear hl3 hb3 hm3 hB3 hx3 hba b0 b1 b2 b3 b4
    go_wp2_with fail
    refine HDR.out.mono ?_
    rintro e w4 ⟨rfl, b4, hpre⟩
    have HB4 := Lib.hid (below_then HBA.out HBA.out.size b4)
    have HPRE := Lib.hid hpre
    clear b4 hpre
    go_wp2_with fail
    go_meet
    exact ⟨rfl, A, _, c, _, rfl, ⟨(HM3.out.keep HB4.out).prefix HPRE.out, fun y hy => HBARE.out y (HPRE.out.subset hy), rfl, by have := HPRE.out.length_le; have := HN.out; omega, HX3.out.keep HB4.out, HB3.out.trans (HB4.out.mono HM3.out.le)⟩⟩
end Go.Proofs.Ytoehpladbdefkaa

