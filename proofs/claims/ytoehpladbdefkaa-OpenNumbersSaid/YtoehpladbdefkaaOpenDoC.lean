/- arbourlaw18.do (printed by wip/tools/gendo.py). -/
import Derived.Test.YtoehpladbdefkaaOpenDoL
import Derived.Deep.RegionHeld3
import Derived.Deep.RegionWith
namespace Go.Proofs.Ytoehpladbdefkaa
open Go.RowKit Go.BigFrame

set_option maxHeartbeats 8000000 in
set_option maxRecDepth 100000 in
theorem do3 (G : Nat → Prop) (B : Nat) (w : World) (q : Nat) (l : List It) (A : Option Addr) (n c : Nat) (xk xh xn xm : Int) (xs : Bool) (h : LG G B w q l (.slice A n c) l) (hbare : ∀ y ∈ l, bareI y) (hn : n = l.length) (hsz : n ≤ 100000) (hk : xk = 3) :
    Calls Try.prog 53 #[.pointer (some ⟨q, 0, none⟩), .slice A n c, .agg #[.int .i64 xk, .int .i64 xh, .int .i64 xn, .int .i64 xm, .bool xs]] w (DoOut G B w q n) := by
  obtain ⟨F, hP, hFl⟩ := Play.start (x := ⟨xk, xh, xn, xm, xs⟩) h
  obtain ⟨w0, hw0⟩ : ∃ w0, w0 = w.alloc (.cells (enc_as ⟨xk, xh, xn, xm, xs⟩).toArray 53) := ⟨_, rfl⟩
  rw [← hw0] at hP
  have HP := Lib.hid hP
  have HW0 := Lib.hid hw0.symm
  have HFL := Lib.hid hFl
  have HBARE := Lib.hid hbare
  have HN := Lib.hid hn
  have HNM := Lib.hid (fun (z : Int) (m : After w0) => names_keep z m.W)
  have a0 : ∀ m : After w0, m.W.cell? ⟨w.heap.size, 2, none⟩ = some (.int .i64 xn) := fun m => (var_bg (hP.box.keep m.below)).2.2.1
  have a1 : ∀ m : After w0, m.W.cell? ⟨w.heap.size, 3, none⟩ = some (.int .i64 xm) := fun m => (var_bg (hP.box.keep m.below)).2.2.2.1
  have f1 : (xk == 1) = false := by rw [hk]; decide
  have f2 : (xk == 2) = false := by rw [hk]; decide
  have f3 : (xk == 3) = true := by rw [hk]; decide
  clear hk
  clear hP hw0 hFl hbare hn h
  go_enter Try.func53, Try.ntmps53
  go_upto_region 1 with (fail)
  rw [show w.alloc (.cells #[.int .i64 xk, .int .i64 xh, .int .i64 xn, .int .i64 xm, .bool xs] 53) = w0 from HW0.out]
  refine wp_region_after (by kernel_rfl) (by kernel_rfl) ?_
  repeat (any_goals (go_big_quiet_step ((go_at_call 16; with_reducible exact call_after (HNM.out _ _)))))
  refine wpQuiet_nil ?_
  rintro w' ⟨n1, rfl⟩
  have HP1 := Lib.hid (HP.out.keep n1.below)
  clear a0 a1 HP HNM
  generalize n1.W = w1 at *
  have HPL := Lib.hid (place18 w1 A n c l xh HP1.out.lm.rdI.1 (by omega))
  have hcc : n ≤ c := HP1.out.lm.rdI.2
  obtain ⟨b0, b1, b2, b3, b4⟩ := var_bg HP1.out.box
  generalize nameAt xn = na at *
  generalize nameAt xm = nb at *
  go_wp2_with fail
  refine HPL.out.mono ?_
  rintro e w2 ⟨rfl, rfl⟩
  go_upto_block 0 with (fail)
  go_cut [1, 10, 11] (fun s1 s10 s11 wx => s11 = .bool true ∧ ∃ A' n' c' l', s1 = .slice A' n' c' ∧ Hid (DoAt G B w wx q l' A' n' c' n ⟨xk, xh, xn, xm, xs⟩))
  case rest =>
    obtain ⟨rfl, A', n', c', l', rfl, HD⟩ := hcut
    have HTL := Lib.hid (tells18 B wc q l' A' n' c' ⟨xk, xh, xn, xm, xs⟩ HD.out.lm.lm HD.out.bare HD.out.len (by have := HD.out.small; omega))
    unfold val_as at HTL
    simp only at HTL
    clear b0 b1 b2 b3 b4
    obtain ⟨e0, e1, e2, e3, e4⟩ := var_bg HD.out.box
    go_wp2_with fail
    refine HTL.out.mono ?_
    rintro e w9 ⟨rfl, b9⟩
    have HD9 := Lib.hid (HD.out.keep b9)
    clear b9
    go_wp2_with fail
    go_ret2
    exact ⟨A', n', c', l', rfl, HD9.out.lm, HD9.out.bare, HD9.out.len, HD9.out.small, HD9.out.below, HD9.out.box.kept⟩
  case first =>
    obtain ⟨i0, hi0, hz0, hz1, hz2⟩ := info_parts info_item
    rcases placeB_cases (l.map It.h) xh with e | ⟨j, e, hj⟩
    · rw [e]
      have HI := Lib.hid (remove_out F w1 q l xh HP1.out.list e)
      clear e
      have d1 : decide ((-1 : Int) ≥ 0) = false := by decide
      go_wp2_with fail
      refine HI.out.mono ?_
      rintro e w3 ⟨rfl, b3'⟩
      have HP3 := Lib.hid (HP1.out.keep b3')
      clear b3' b0 b1 b2 b3 b4
      go_wp2_with fail
      go_meet
      exact ⟨rfl, A, n, c, l, rfl, ⟨HP3.out.lm, HBARE.out, HN.out, by omega, HP3.out.box, (HP3.out.turn w3 l F (fun k hk => .inl hk) HP3.out.list (But.refl _ _)).2.1⟩⟩
    · rw [List.length_map] at hj
      rw [e]
      have HI := Lib.hid (remove_in F w1 q l xh j HP1.out.list e hj)
      have hjn : j < n := by have := HN.out; omega
      have d1 : decide ((j : Int) ≥ 0) = true := decide_eq_true (by omega)
      have d2 : (0 : Int) ≤ (j : Int) := by omega
      obtain ⟨y, hy⟩ : ∃ y, l[j]? = some y := ⟨_, List.getElem?_eq_getElem hj⟩
      obtain ⟨g, rfl, -⟩ := HP1.out.lm.cells hy
      clear e hy
      go_wp2_with fail
      refine HI.out.mono ?_
      rintro e w3 ⟨rfl, hl3, hb3⟩
      obtain ⟨hm3, hB3, hx3⟩ := HP1.out.turn w3 _ F (fun k hk => .inl hk) hl3 hb3
      have HM3 := Lib.hid hm3
      have HB3 := Lib.hid hB3
      have HX3 := Lib.hid hx3
      have hrA : Hid (Rd w3 (some ⟨g, 0, none⟩) j 4 ((l.take j).flatMap enc_item)) := by
        have hr := hm3.row
        rw [← HN.out] at hr
        exact rd_take encOk_item hr _ c j rfl (by omega)
      have hcb := hm3.cap
      have hcl : (cutL l j).length = n - 1 := by rw [cutL_len l j hj]; have := HN.out; omega
      have HCL := Lib.hid hcl
      have hflat : (l.take j).flatMap enc_item ++ (l.drop (j + 1)).flatMap enc_item = (cutL l j).flatMap enc_item := by unfold cutL; rw [List.flatMap_append]
      have HFLAT := Lib.hid hflat
      have hB0 := made_drew w3
      have s2 : IntKind.i64.wrap ((j : Int) + 1) = (j : Int) + 1 := IntWalk.i64_in _ (by omega)
      have s3 : (0 : Int) ≤ (j : Int) + 1 := by omega
      have s4 : ((j : Int) + 1).toNat = j + 1 := by omega
      have s5 : (j : Int) + 1 ≤ (n : Int) := by omega
      have s7 : (j : Int) ≤ (c : Int) := by omega
      have s8 : j ≤ c := by omega
      have s9 : j + 1 ≤ n := by omega
      have hrB : Hid (∀ ad, (j + 1 < n → ad = (⟨g, (j + 1) * 4, none⟩ : Addr)) → Rd w3 (some ad) (n - (j + 1)) 4 ((l.drop (j + 1)).flatMap enc_item)) := fun ad had => by
        have hr := hm3.row
        rw [← HN.out] at hr
        exact rd_drop encOk_item hr (j + 1) ad (by omega) had
      clear hl3 hb3 hm3 hB3 hx3 hcl hflat b0 b1 b2 b3 b4
      have hcase : (c = j + 1 ∧ n = j + 1) ∨ ¬ c = j + 1 := by omega
      rcases hcase with ⟨rfl, rfl⟩ | hcj
      · have z1 : (j : Int) ≤ (j : Int) + 1 := by omega
        have z2 : j ≤ j + 1 := by omega
        have z3 : (j : Int) + 1 ≤ ((j + 1 : Nat) : Int) := by omega
        have z4 : (j : Int) ≤ ((j + 1 : Nat) : Int) := by omega
        have HDN := Lib.hid (show l.drop (j + 1) = [] from List.drop_eq_nil_iff.2 (by have := HN.out; omega))
        go_upto_region 16 with (fail)
        go_region_held3 (fun w' => Below w3.heap.size w3 w')
          (first | exact hB0 | exact made_alloc hB0 _ | exact hB2 | exact hB3)
          (first
            | (refine step_append_made w3 _ (by rfl) (.tmp 88) (.tmp 91) _ (by rfl) 50 i0 _ 4 56 Try.underlying48 hi0 hz0 hz1 hz2 rfl (by omega) _ 0 [] (by rfl) (made_new w3 w3.drew _ _ hB0) _ j _ _ (by rfl) (hrA.out.keep (made_alloc hB0 _)) (by simp only [maxLen]; omega) (by omega) (made_alloc hB0 _) ?_
               intro v2 w2 hown2 hB2 _)
            | (refine step_append_made w3 w2 (by rfl) (.tmp 92) (.tmp 96) _ (by rfl) 50 i0 _ 4 56 Try.underlying48 hi0 hz0 hz1 hz2 rfl (by omega) v2 _ _ (by rfl) hown2 _ 0 _ [] (by rfl) (rd_zero _ _) (by simp only [maxLen]; omega) (by omega) hB2 ?_
               intro v3 w5 hown3 hB3 _))
        all_goals
          go_wp2_with fail
          have hf := HFLAT.out
          rw [HDN.out, List.flatMap_nil] at hf
          rw [List.nil_append, hf] at hown3
          obtain ⟨A5, c5, rfl, _, _, _⟩ := own_rd hown3 (row_one encOk_item _)
          go_meet
          have hl5 : 0 + j + 0 = (cutL l j).length := by have := HCL.out; omega
          exact ⟨rfl, A5, _, c5, cutL l j, rfl, ⟨HM3.out.anew hown3 hB3 hl5 rfl, fun z hz => HBARE.out z (cutL_mem hz), hl5, by omega, HX3.out.keep hB3, HB3.out.trans (hB3.mono HM3.out.le)⟩⟩
      · go_upto_region 16 with (fail)
        go_region_held3 (fun w' => Below w3.heap.size w3 w')
          (first | exact hB0 | exact made_alloc hB0 _ | exact hB2 | exact hB3)
          (first
            | (refine step_append_made w3 _ (by rfl) (.tmp 88) (.tmp 91) _ (by rfl) 50 i0 _ 4 56 Try.underlying48 hi0 hz0 hz1 hz2 rfl (by omega) _ 0 [] (by rfl) (made_new w3 w3.drew _ _ hB0) _ j _ _ (by rfl) (hrA.out.keep (made_alloc hB0 _)) (by simp only [maxLen]; omega) (by omega) (made_alloc hB0 _) ?_
               intro v2 w2 hown2 hB2 _)
            | (refine step_append_made w3 w2 (by rfl) (.tmp 92) (.tmp 96) _ (by rfl) 50 i0 _ 4 56 Try.underlying48 hi0 hz0 hz1 hz2 rfl (by omega) v2 _ _ (by rfl) hown2 _ (n - (j + 1)) _ _ (by first | rfl | (simp; omega)) ((hrB.out _ (fun h => by first | rfl | omega)).keep hB2) (by simp only [maxLen]; omega) (by omega) hB2 ?_
               intro v3 w5 hown3 hB3 _))
        all_goals
          go_wp2_with fail
          rw [List.nil_append, HFLAT.out] at hown3
          obtain ⟨A5, c5, rfl, _, _, _⟩ := own_rd hown3 (row_one encOk_item _)
          go_meet
          have hl5 : 0 + j + (n - (j + 1)) = (cutL l j).length := by have := HCL.out; omega
          exact ⟨rfl, A5, _, c5, cutL l j, rfl, ⟨HM3.out.anew hown3 hB3 hl5 rfl, fun z hz => HBARE.out z (cutL_mem hz), hl5, by omega, HX3.out.keep hB3, HB3.out.trans (hB3.mono HM3.out.le)⟩⟩
end Go.Proofs.Ytoehpladbdefkaa

