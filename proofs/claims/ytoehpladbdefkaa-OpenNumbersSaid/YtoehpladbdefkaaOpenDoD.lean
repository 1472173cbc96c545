/- arbourlaw18.do (printed by wip/tools/gendo.py). -/
import Derived.Test.YtoehpladbdefkaaOpenDoL
import Derived.Deep.RegionHeld3
import Derived.Deep.RegionWith
namespace Go.Proofs.Ytoehpladbdefkaa
open Go.RowKit Go.BigFrame

set_option maxHeartbeats 8000000 in
set_option maxRecDepth 100000 in
theorem do10 (G : Nat → Prop) (B : Nat) (w : World) (q : Nat) (l : List It) (A : Option Addr) (n c : Nat) (xk xh xn xm : Int) (xs : Bool) (h : LG G B w q l (.slice A n c) l) (hbare : ∀ y ∈ l, bareI y) (hn : n = l.length) (hsz : n ≤ 100000) (hk : xk = 10) :
    Calls Try.prog 53 #[.pointer (some ⟨q, 0, none⟩), .slice A n c, .agg #[.int .i64 xk, .int .i64 xh, .int .i64 xn, .int .i64 xm, .bool xs]] w (DoOut G B w q n) := by
  obtain ⟨F, hP, hFl⟩ := Play.start (x := ⟨xk, xh, xn, xm, xs⟩) h
  obtain ⟨w0, hw0⟩ : ∃ w0, w0 = w.alloc (.cells (enc_as ⟨xk, xh, xn, xm, xs⟩).toArray 53) := ⟨_, rfl⟩
  rw [← hw0] at hP
  have HP := Lib.hid hP
  have HW0 := Lib.hid hw0.symm
  have HFL := Lib.hid hFl
  have HBARE := Lib.hid hbare
  have HN := Lib.hid hn
  have HNM := Lib.hid (fun (z : Int) (m : After w0) => names_keep z m.W)
  have a0 : ∀ m : After w0, m.W.cell? ⟨w.heap.size, 2, none⟩ = some (.int .i64 xn) := fun m => (var_bg (hP.box.keep m.below)).2.2.1
  have a1 : ∀ m : After w0, m.W.cell? ⟨w.heap.size, 3, none⟩ = some (.int .i64 xm) := fun m => (var_bg (hP.box.keep m.below)).2.2.2.1
  have f1 : (xk == 1) = false := by rw [hk]; decide
  have f2 : (xk == 2) = false := by rw [hk]; decide
  have f3 : (xk == 3) = false := by rw [hk]; decide
  have f4 : (xk == 4) = false := by rw [hk]; decide
  have f5 : (xk == 5) = false := by rw [hk]; decide
  have f6 : (xk == 6) = false := by rw [hk]; decide
  have f7 : (xk == 7) = false := by rw [hk]; decide
  have f8 : (xk == 8) = false := by rw [hk]; decide
  have f9 : (xk == 9) = false := by rw [hk]; decide
  have f10 : (xk == 10) = true := by rw [hk]; decide
  clear hk
  clear hP hw0 hFl hbare hn h
  go_enter Try.func53, Try.ntmps53
  go_upto_region 1 with (fail)
  rw [show w.alloc (.cells #[.int .i64 xk, .int .i64 xh, .int .i64 xn, .int .i64 xm, .bool xs] 53) = w0 from HW0.out]
  refine wp_region_after (by kernel_rfl) (by kernel_rfl) ?_
  repeat (any_goals (go_big_quiet_step ((go_at_call 16; with_reducible exact call_after (HNM.out _ _)))))
  refine wpQuiet_nil ?_
  rintro w' ⟨n1, rfl⟩
  have HP1 := Lib.hid (HP.out.keep n1.below)
  clear a0 a1 HP HNM
  generalize n1.W = w1 at *
  have HPL := Lib.hid (place18 w1 A n c l xh HP1.out.lm.rdI.1 (by omega))
  have hcc : n ≤ c := HP1.out.lm.rdI.2
  obtain ⟨b0, b1, b2, b3, b4⟩ := var_bg HP1.out.box
  generalize nameAt xn = na at *
  generalize nameAt xm = nb at *
  go_wp2_with fail
  refine HPL.out.mono ?_
  rintro e w2 ⟨rfl, rfl⟩
  go_upto_block 0 with (fail)
  go_cut [1, 10, 11] (fun s1 s10 s11 wx => s11 = .bool true ∧ ∃ A' n' c' l', s1 = .slice A' n' c' ∧ Hid (DoAt G B w wx q l' A' n' c' n ⟨xk, xh, xn, xm, xs⟩))
  case rest =>
    obtain ⟨rfl, A', n', c', l', rfl, HD⟩ := hcut
    have HTL := Lib.hid (tells18 B wc q l' A' n' c' ⟨xk, xh, xn, xm, xs⟩ HD.out.lm.lm HD.out.bare HD.out.len (by have := HD.out.small; omega))
    unfold val_as at HTL
    simp only at HTL
    clear b0 b1 b2 b3 b4
    obtain ⟨e0, e1, e2, e3, e4⟩ := var_bg HD.out.box
    go_wp2_with fail
    refine HTL.out.mono ?_
    rintro e w9 ⟨rfl, b9⟩
    have HD9 := Lib.hid (HD.out.keep b9)
    clear b9
    go_wp2_with fail
    go_ret2
    exact ⟨A', n', c', l', rfl, HD9.out.lm, HD9.out.bare, HD9.out.len, HD9.out.small, HD9.out.below, HD9.out.box.kept⟩
  case first =>
    have HSC := Lib.hid (fun W (a : Nat) (hW : Below w1.heap.size w1 W) (hr : Rd W (some ⟨a, 0, none⟩) 2 1 (strs [na, nb])) => (show Calls Try.prog 38 #[.pointer (some ⟨q, 0, none⟩), .int .i64 xh, .slice (some ⟨a, 0, none⟩) 2 2] W (fun e w' => e = .returned (.bool (scopeB (l.map key_item) xh [na, nb])) ∧ Below W.heap.size W w') from scope_item B W q l xh (some ⟨a, 0, none⟩) 2 [na, nb] (HP1.out.keep hW).lm.list hr (by show 2 ≤ _; omega)))
    have HS18 := Lib.hid (fun W (a : Nat) (hW : Below w1.heap.size w1 W) (hr : Rd W (some ⟨a, 0, none⟩) 2 1 (strs [na, nb])) => (show Calls Try.prog 33 #[.slice A n c, .int .i64 xh, .slice (some ⟨a, 0, none⟩) 2 2] W (fun e w' => e = .returned (.bool (scopeB (l.map key_item) xh [na, nb])) ∧ Below W.heap.size W w') from scope18 W A n c l xh (some ⟨a, 0, none⟩) 2 [na, nb] (HP1.out.keep hW).lm.rdI.1 hr (by show 2 ≤ _; omega) (by omega)))
    generalize scopeB (l.map key_item) xh [na, nb] = sb at *
    have KX := Lib.hid (fun W (hW : Below w1.heap.size w1 W) => (var_bg (HP1.out.keep hW).box).2.1)
    have hA0 : Below w1.heap.size w1 w1.drew := made_drew w1
    have hA1 : Below w1.heap.size w1 (w1.alloc (.cells #[.string na, .string nb] 9)).drew := ((Below.refl _ _).alloc (Nat.le_refl _) _).drew
    have hA2 : Below w1.heap.size w1 ((w1.alloc (.cells #[.string na, .string nb] 9)).alloc (.cells #[.string na, .string nb] 9)).drew := (((Below.refl _ _).alloc (Nat.le_refl _) _).alloc (by simp) _).drew
    have hR1 : Rd (w1.alloc (.cells #[.string na, .string nb] 9)) (some ⟨w1.heap.size, 0, none⟩) 2 1 (strs [na, nb]) := rd_lit w1 9 [na, nb]
    have hR2 : Rd ((w1.alloc (.cells #[.string na, .string nb] 9)).alloc (.cells #[.string na, .string nb] 9)) (some ⟨w1.heap.size + 1, 0, none⟩) 2 1 (strs [na, nb]) := by
      have := rd_lit (w1.alloc (.cells #[.string na, .string nb] 9)) 9 [na, nb]
      rw [show (w1.alloc (.cells #[.string na, .string nb] 9)).heap.size = w1.heap.size + 1 by simp] at this
      exact this
    have RD1 := Lib.hid (hR1.keep (made_drew _))
    have RD1b := Lib.hid ((hR1.keep (made_alloc (Below.refl _ _) (.cells #[.string na, .string nb] 9))).keep (made_drew _))
    have RD2 := Lib.hid (hR2.keep (made_drew _))
    have RL := Lib.hid (fun W => (show Rd (W.alloc (.cells #[.string na, .string nb] 9)) (some ⟨W.heap.size, 0, none⟩) 2 1 (strs [na, nb]) from rd_lit W 9 [na, nb]))
    have HA1 := Lib.hid hA1
    have HA2 := Lib.hid hA2
    have KS := Lib.hid (fun W (hW : Below w1.heap.size w1 W) => (show W.cell? ⟨w.heap.size, 1, none⟩ = some (.int .i64 xh) ∧ Below w1.heap.size w1 W from ⟨KX.out _ hW, hW⟩))
    clear hA1 hA2 hR1 hR2 b0 b1 b2 b3 b4
    go_upto_region 43 with (fail)
    go_region_held3 (fun W => W.cell? ⟨w.heap.size, 1, none⟩ = some (.int .i64 xh) ∧ Below w1.heap.size w1 W)
      (first | exact KS.out _ hA0 | exact KS.out _ (made_alloc hA0 _) | exact KS.out _ (made_alloc (made_alloc hA0 _) _) | exact KS.out _ HB6.out | exact KS.out _ HB5.out | exact KS.out _ (made_alloc HB5.out _))
      ((first
          | (go_at_call 38
             first
               | (with_reducible refine (HSC.out _ _ HA1.out RD1.out).mono ?_
                  rintro e w5 ⟨rfl, b5⟩
                  have HB5 := Lib.hid (below_then HA1.out HA1.out.size b5)
                  clear b5)
               | (with_reducible refine (HSC.out _ _ HA2.out RD1b.out).mono ?_
                  rintro e w5 ⟨rfl, b5⟩
                  have HB5 := Lib.hid (below_then HA2.out HA2.out.size b5)
                  have RD5 := Lib.hid (RD2.out.keep b5)
                  clear b5)
               | (with_reducible refine (HSC.out _ _ HA2.out RD2.out).mono ?_
                  rintro e w5 ⟨rfl, b5⟩
                  have HB5 := Lib.hid (below_then HA2.out HA2.out.size b5)
                  have RD5 := Lib.hid (RD1b.out.keep b5)
                  clear b5))
          | (go_at_call 33
             first
               | (with_reducible refine (HS18.out _ _ HB5.out RD5.out).mono ?_
                  rintro e w6 ⟨rfl, b6⟩
                  have HB6 := Lib.hid (below_then HB5.out HB5.out.size b6)
                  clear b6)
               | (with_reducible refine (HS18.out _ _ (made_alloc HB5.out (.cells #[.string na, .string nb] 9)) (RL.out w5)).mono ?_
                  rintro e w6 ⟨rfl, b6⟩
                  have HB6 := Lib.hid (below_then (made_alloc HB5.out (.cells #[.string na, .string nb] 9)) (made_alloc HB5.out (.cells #[.string na, .string nb] 9)).size b6)
                  clear b6))))
    all_goals
      go_wp2_with fail
      go_meet
      have hp6 := HP1.out.keep HB6.out
      exact ⟨by first | rfl | simp, A, n, c, l, rfl, ⟨hp6.lm, HBARE.out, HN.out, by omega, hp6.box, (hp6.turn w6 l F (fun k hk => .inl hk) hp6.list (But.refl _ _)).2.1⟩⟩
end Go.Proofs.Ytoehpladbdefkaa

