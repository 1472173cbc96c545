/- arbourlaw18.do (printed by wip/tools/gendo.py). -/
import Derived.Test.YtoehpladbdefkaaOpenDoL
import Derived.Deep.RegionHeld3
import Derived.Deep.RegionWith
namespace Go.Proofs.Ytoehpladbdefkaa
open Go.RowKit Go.BigFrame

set_option maxHeartbeats 8000000 in
set_option maxRecDepth 100000 in
theorem do5 (G : Nat → Prop) (B : Nat) (w : World) (q : Nat) (l : List It) (A : Option Addr) (n c : Nat) (xk xh xn xm : Int) (xs : Bool) (h : LG G B w q l (.slice A n c) l) (hbare : ∀ y ∈ l, bareI y) (hn : n = l.length) (hsz : n ≤ 100000) (hk : xk = 5) :
    Calls Try.prog 53 #[.pointer (some ⟨q, 0, none⟩), .slice A n c, .agg #[.int .i64 xk, .int .i64 xh, .int .i64 xn, .int .i64 xm, .bool xs]] w (DoOut G B w q n) := by
  obtain ⟨F, hP, hFl⟩ := Play.start (x := ⟨xk, xh, xn, xm, xs⟩) h
  obtain ⟨w0, hw0⟩ : ∃ w0, w0 = w.alloc (.cells (enc_as ⟨xk, xh, xn, xm, xs⟩).toArray 53) := ⟨_, rfl⟩
  rw [← hw0] at hP
  have HP := Lib.hid hP
  have HW0 := Lib.hid hw0.symm
  have HFL := Lib.hid hFl
  have HBARE := Lib.hid hbare
  have HN := Lib.hid hn
  have HNM := Lib.hid (fun (z : Int) (m : After w0) => names_keep z m.W)
  have a0 : ∀ m : After w0, m.W.cell? ⟨w.heap.size, 2, none⟩ = some (.int .i64 xn) := fun m => (var_bg (hP.box.keep m.below)).2.2.1
  have a1 : ∀ m : After w0, m.W.cell? ⟨w.heap.size, 3, none⟩ = some (.int .i64 xm) := fun m => (var_bg (hP.box.keep m.below)).2.2.2.1
  have f1 : (xk == 1) = false := by rw [hk]; decide
  have f2 : (xk == 2) = false := by rw [hk]; decide
  have f3 : (xk == 3) = false := by rw [hk]; decide
  have f4 : (xk == 4) = false := by rw [hk]; decide
  have f5 : (xk == 5) = true := by rw [hk]; decide
  clear hk
  have hel := fun W => el_keep W ⟨xk, xh, xn, xm, xs⟩
  unfold elI val_item val_as at hel
  simp only at hel
  obtain ⟨ns, hns⟩ : ∃ z : Int, (if xs = true then (2 : Int) else 1) = z := ⟨_, rfl⟩
  rw [hns] at hel
  have HEL := Lib.hid hel
  clear hel hns
  clear hP hw0 hFl hbare hn h
  go_enter Try.func53, Try.ntmps53
  go_upto_region 1 with (fail)
  rw [show w.alloc (.cells #[.int .i64 xk, .int .i64 xh, .int .i64 xn, .int .i64 xm, .bool xs] 53) = w0 from HW0.out]
  refine wp_region_after (by kernel_rfl) (by kernel_rfl) ?_
  repeat (any_goals (go_big_quiet_step ((go_at_call 16; with_reducible exact call_after (HNM.out _ _)))))
  refine wpQuiet_nil ?_
  rintro w' ⟨n1, rfl⟩
  have HP1 := Lib.hid (HP.out.keep n1.below)
  clear a0 a1 HP HNM
  generalize n1.W = w1 at *
  have HPL := Lib.hid (place18 w1 A n c l xh HP1.out.lm.rdI.1 (by omega))
  have hcc : n ≤ c := HP1.out.lm.rdI.2
  obtain ⟨b0, b1, b2, b3, b4⟩ := var_bg HP1.out.box
  generalize nameAt xn = na at *
  generalize nameAt xm = nb at *
  go_wp2_with fail
  refine HPL.out.mono ?_
  rintro e w2 ⟨rfl, rfl⟩
  go_upto_block 0 with (fail)
  go_cut [1, 10, 11] (fun s1 s10 s11 wx => s11 = .bool true ∧ ∃ A' n' c' l', s1 = .slice A' n' c' ∧ Hid (DoAt G B w wx q l' A' n' c' n ⟨xk, xh, xn, xm, xs⟩))
  case rest =>
    obtain ⟨rfl, A', n', c', l', rfl, HD⟩ := hcut
    have HTL := Lib.hid (tells18 B wc q l' A' n' c' ⟨xk, xh, xn, xm, xs⟩ HD.out.lm.lm HD.out.bare HD.out.len (by have := HD.out.small; omega))
    unfold val_as at HTL
    simp only at HTL
    clear b0 b1 b2 b3 b4
    obtain ⟨e0, e1, e2, e3, e4⟩ := var_bg HD.out.box
    go_wp2_with fail
    refine HTL.out.mono ?_
    rintro e w9 ⟨rfl, b9⟩
    have HD9 := Lib.hid (HD.out.keep b9)
    clear b9
    go_wp2_with fail
    go_ret2
    exact ⟨A', n', c', l', rfl, HD9.out.lm, HD9.out.bare, HD9.out.len, HD9.out.small, HD9.out.below, HD9.out.box.kept⟩
  case first =>
    obtain ⟨i0, hi0, hz0, hz1, hz2⟩ := info_parts info_item
    have ycell : Hid (enc_item ⟨xm, ns, na, none, 0, 0⟩ = [.int .i64 xm, .int .i64 ns, .string na, .slice none 0 0]) := rfl
    go_wp2_with fail
    refine (HEL.out _).mono ?_
    rintro e w3 ⟨rfl, bb⟩
    have HP3 := Lib.hid (HP1.out.keep bb)
    clear b0 b1 b2 b3 b4
    obtain ⟨b0, b1, b2, b3, b4⟩ := var_bg HP3.out.box
    obtain ⟨p0, p1, p2, p3, p4⟩ := var_bg (HP3.out.keep ((Below.refl _ _).alloc (Nat.le_refl _) (.cells #[.int .i64 xh, .int .i64 ns, .string na, .slice none 0 0] 50))).box
    obtain ⟨q0, q1, q2, q3, q4⟩ := var_bg (HP3.out.keep ((Below.refl _ _).alloc (Nat.le_refl _) (.cells #[.int .i64 xm, .int .i64 ns, .string na, .slice none 0 0] 50))).box
    have hba : Below w3.heap.size w3 (w3.alloc (.cells (enc_item ⟨xm, ns, na, none, 0, 0⟩).toArray 50)) := (Below.refl _ _).alloc (Nat.le_refl _) _
    have HP4 := Lib.hid (HP3.out.keep hba)
    have HV := Lib.hid (Blk.new w3 50 (enc_item ⟨xm, ns, na, none, 0, 0⟩).toArray (0, 0))
    obtain ⟨w4, hw4⟩ : ∃ w4, w4 = w3.alloc (.cells (enc_item ⟨xm, ns, na, none, 0, 0⟩).toArray 50) := ⟨_, rfl⟩
    rw [← hw4] at HP4 HV
    have HW4 := Lib.hid hw4.symm
    clear bb hba hw4
    rcases placeB_cases (l.map It.h) xh with e | ⟨j, e, hj⟩
    · rw [e]
      have HI := Lib.hid (after_out F w4 q l xh ⟨xm, ns, na, none, 0, 0⟩ HP4.out.list e)
      unfold val_item at HI
      simp only at HI
      clear e
      have d1 : decide ((-1 : Int) ≥ 0) = false := by decide
      go_wp2_with fail
      rw [show w3.alloc (.cells #[.int .i64 xm, .int .i64 ns, .string na, .slice none 0 0] 50) = w4 from HW4.out]
      clear p0 p1 p2 p3 p4 q0 q1 q2 q3 q4
      refine HI.out.mono ?_
      rintro e w5 ⟨rfl, b5'⟩
      have HP5 := Lib.hid (HP4.out.keep b5')
      clear b5' b0 b1 b2 b3 b4
      go_wp2_with fail
      go_meet
      exact ⟨rfl, A, n, c, l, rfl, ⟨HP5.out.lm, HBARE.out, HN.out, by omega, HP5.out.box, (HP5.out.turn w5 l F (fun k hk => .inl hk) HP5.out.list (But.refl _ _)).2.1⟩⟩
    · rw [List.length_map] at hj
      rw [e]
      have HI := Lib.hid (after_in F w4 q l xh j ⟨xm, ns, na, none, 0, 0⟩ HP4.out.list e hj (by have := HN.out; omega))
      unfold val_item at HI
      simp only at HI
      have hjn : j < n := by have := HN.out; omega
      have d1 : decide ((j : Int) ≥ 0) = true := decide_eq_true (by omega)
      have d2 : (0 : Int) ≤ (j : Int) := by omega
      obtain ⟨y, hy⟩ : ∃ y, l[j]? = some y := ⟨_, List.getElem?_eq_getElem hj⟩
      obtain ⟨g, rfl, -⟩ := HP1.out.lm.cells hy
      clear e hy
      go_wp2_with fail
      rw [show w3.alloc (.cells #[.int .i64 xm, .int .i64 ns, .string na, .slice none 0 0] 50) = w4 from HW4.out]
      clear p0 p1 p2 p3 p4 q0 q1 q2 q3 q4
      refine HI.out.mono ?_
      rintro e w5 ⟨rfl, hl5, hb5⟩
      obtain ⟨hm5, hB5, hx5⟩ := HP4.out.turn w5 _ (fun k => F k ∨ w4.heap.size ≤ k) (fun k hk => hk) hl5 hb5
      have HV5 := Lib.hid (HV.out.but hb5 (fun hk => by have h1 := HFL.out _ hk; have h2 := HP3.out.b.size; omega))
      have HM5 := Lib.hid hm5
      have HB5 := Lib.hid hB5
      have HX5 := Lib.hid hx5
      have hcb := hm5.cap
      have hB0 := made_drew w5
      have s2 : IntKind.i64.wrap ((j : Int) + 1) = (j : Int) + 1 := IntWalk.i64_in _ (by omega)
      have s3 : (0 : Int) ≤ (j : Int) + 1 := by omega
      have s4 : ((j : Int) + 1).toNat = j + 1 := by omega
      have s5 : (j : Int) + 1 ≤ (n : Int) := by omega
      have s6 : (j : Int) + 1 ≤ (c : Int) := by omega
      have s7 : (j : Int) ≤ (c : Int) := by omega
      have s8 : j ≤ c := by omega
      have s9 : j + 1 ≤ n := by omega
      have s10 : j + 1 ≤ c := by omega
      have hrA : Hid (Rd w5 (some ⟨g, 0, none⟩) (j + 1) 4 ((l.take (j + 1)).flatMap enc_item)) := by
        have hr := hm5.row
        rw [← HN.out] at hr
        exact rd_take encOk_item hr _ c (j + 1) rfl (by omega)
      have hrB : Hid (∀ ad, (j + 1 < n → ad = (⟨g, (j + 1) * 4, none⟩ : Addr)) → Rd w5 (some ad) (n - (j + 1)) 4 ((l.drop (j + 1)).flatMap enc_item)) := fun ad had => by
        have hr := hm5.row
        rw [← HN.out] at hr
        exact rd_drop encOk_item hr (j + 1) ad (by omega) had
      have hcl : (putL l (j + 1) ⟨xm, ns, na, none, 0, 0⟩).length = (n + 1) := by rw [putL_len l (j + 1) _ (by omega)]; have := HN.out; omega
      have HCL := Lib.hid hcl
      have hflat : ((l.take (j + 1)).flatMap enc_item ++ enc_item ⟨xm, ns, na, none, 0, 0⟩) ++ (l.drop (j + 1)).flatMap enc_item = (putL l (j + 1) ⟨xm, ns, na, none, 0, 0⟩).flatMap enc_item := by unfold putL; rw [List.flatMap_append, List.flatMap_cons]; simp
      have HFLAT := Lib.hid hflat
      have KS := Lib.hid (fun W (hW : Below w5.heap.size w5 W) => (show (W.cell? ⟨w3.heap.size, 0, none⟩ = some (.int .i64 xm) ∧ W.cell? ⟨w3.heap.size, 1, none⟩ = some (.int .i64 ns) ∧ W.cell? ⟨w3.heap.size, 2, none⟩ = some (.string na) ∧ W.cell? ⟨w3.heap.size, 3, none⟩ = some (.slice none 0 0)) ∧ Below w5.heap.size w5 W from
        ⟨⟨(HV5.out.keep hW).cell 0, (HV5.out.keep hW).cell 1, (HV5.out.keep hW).cell 2, (HV5.out.keep hW).cell 3⟩, hW⟩))
      have HN2 := Lib.hid (show ((w5.alloc (.cells #[] 50)).alloc (.cells #[.int .i64 xm, .int .i64 ns, .string na, .slice none 0 0] 50)).drew.ownsRow w5.heap.size 50 4 (.slice (some ⟨w5.heap.size, 0, none⟩) 0 0) 0 [] from owns_keep (made_new w5 w5 _ _ (Below.refl _ _)) ((Below.refl _ _).alloc (Nat.le_refl _) _).drew)
      have HN3 := Lib.hid (show ((w5.alloc (.cells #[.int .i64 xm, .int .i64 ns, .string na, .slice none 0 0] 50)).alloc (.cells #[] 50)).drew.ownsRow w5.heap.size 50 4 (.slice (some ⟨w5.heap.size + 1, 0, none⟩) 0 0) 0 [] from by
        have := made_new w5 (w5.alloc (.cells #[.int .i64 xm, .int .i64 ns, .string na, .slice none 0 0] 50)) 50 4 ((Below.refl _ _).alloc (Nat.le_refl _) _)
        rw [show (w5.alloc (.cells #[.int .i64 xm, .int .i64 ns, .string na, .slice none 0 0] 50)).heap.size = w5.heap.size + 1 by simp] at this
        exact owns_keep this (Below.refl _ _).drew)
      have HI2 := Lib.hid (show Blk ((w5.alloc (.cells #[] 50)).alloc (.cells #[.int .i64 xm, .int .i64 ns, .string na, .slice none 0 0] 50)).drew (w5.heap.size + 1) 50 (enc_item ⟨xm, ns, na, none, 0, 0⟩).toArray (0, 0) from by
        have := Blk.new (w5.alloc (.cells #[] 50)) 50 (enc_item ⟨xm, ns, na, none, 0, 0⟩).toArray (0, 0)
        rw [show (w5.alloc (.cells #[] 50)).heap.size = w5.heap.size + 1 by simp] at this
        exact this.keep (Below.refl _ _).drew)
      have HI3 := Lib.hid (show Blk ((w5.alloc (.cells #[.int .i64 xm, .int .i64 ns, .string na, .slice none 0 0] 50)).alloc (.cells #[] 50)).drew w5.heap.size 50 (enc_item ⟨xm, ns, na, none, 0, 0⟩).toArray (0, 0) from ((Blk.new w5 _ _ _).alloc _).keep (Below.refl _ _).drew)
      have HB22 := Lib.hid (show Below w5.heap.size w5 ((w5.alloc (.cells #[] 50)).alloc (.cells #[.int .i64 xm, .int .i64 ns, .string na, .slice none 0 0] 50)).drew from (made_alloc (made_alloc (Below.refl _ _) _) _).drew)
      have HB33 := Lib.hid (show Below w5.heap.size w5 ((w5.alloc (.cells #[.int .i64 xm, .int .i64 ns, .string na, .slice none 0 0] 50)).alloc (.cells #[] 50)).drew from (made_alloc (made_alloc (Below.refl _ _) _) _).drew)
      clear hl5 hb5 hm5 hB5 hx5 hcl hflat b0 b1 b2 b3 b4
      have hcase : (c = j + 1 ∧ n = j + 1) ∨ ¬ c = j + 1 := by omega
      rcases hcase with ⟨rfl, rfl⟩ | hcj
      · have z1 : (j : Int) ≤ (j : Int) + 1 := by omega
        have z2 : j ≤ j + 1 := by omega
        have z3 : (j : Int) + 1 ≤ ((j + 1 : Nat) : Int) := by omega
        have z4 : (j : Int) ≤ ((j + 1 : Nat) : Int) := by omega
        have HDN := Lib.hid (show l.drop (j + 1) = [] from List.drop_eq_nil_iff.2 (by have := HN.out; omega))
        go_upto_region 28 with (fail)
        go_region_held3 (fun w' => (w'.cell? ⟨w3.heap.size, 0, none⟩ = some (.int .i64 xm) ∧ w'.cell? ⟨w3.heap.size, 1, none⟩ = some (.int .i64 ns) ∧ w'.cell? ⟨w3.heap.size, 2, none⟩ = some (.string na) ∧ w'.cell? ⟨w3.heap.size, 3, none⟩ = some (.slice none 0 0)) ∧ Below w5.heap.size w5 w')
          (first | exact KS.out _ hB0 | exact KS.out _ (made_alloc hB0 _) | exact KS.out _ (made_alloc (made_alloc hB0 _) _) | exact KS.out _ hB8 | exact KS.out _ hB7 | exact KS.out _ (made_alloc hB7 _) | exact KS.out _ hB6 | exact KS.out _ (made_alloc hB6 _))
          (first
            | (refine step_append_made w5 _ (by rfl) (.tmp 145) (.tmp 149) _ (by rfl) 50 i0 _ 4 56 Try.underlying48 hi0 hz0 hz1 hz2 rfl (by omega) _ 0 [] (by rfl) (made_new w5 w5.drew _ _ hB0) _ (j + 1) _ _ (by rfl) (hrA.out.keep (made_alloc hB0 _)) (by simp only [maxLen]; omega) (by omega) (made_alloc hB0 _) ?_
               intro v6 w6 hown6 hB6 g6)
            | (refine step_append_made w5 _ (by rfl) (.tmp 145) (.tmp 149) _ (by rfl) 50 i0 _ 4 56 Try.underlying48 hi0 hz0 hz1 hz2 rfl (by omega) _ 0 [] (by rfl) HN2.out _ (j + 1) _ _ (by rfl) (hrA.out.keep HB22.out) (by simp only [maxLen]; omega) (by omega) HB22.out ?_
               intro v6 w6 hown6 hB6 g6
               have hRI6 : Rd w6 (some ⟨w5.heap.size + 1, 0, none⟩) 1 4 (enc_item ⟨xm, ns, na, none, 0, 0⟩) := rd_grown (a := w5.heap.size) HI2.out g6 (by omega))
            | (refine step_append_made w5 _ (by rfl) (.tmp 145) (.tmp 149) _ (by rfl) 50 i0 _ 4 56 Try.underlying48 hi0 hz0 hz1 hz2 rfl (by omega) _ 0 [] (by rfl) HN3.out _ (j + 1) _ _ (by rfl) (hrA.out.keep HB33.out) (by simp only [maxLen]; omega) (by omega) HB33.out ?_
               intro v6 w6 hown6 hB6 g6
               have hRI6 : Rd w6 (some ⟨w5.heap.size, 0, none⟩) 1 4 (enc_item ⟨xm, ns, na, none, 0, 0⟩) := rd_grown (a := w5.heap.size + 1) HI3.out g6 (by omega))
            | (refine step_append_made w5 w6 (by rfl) (.tmp 150) (.tmp 152) _ (by rfl) 50 i0 _ 4 56 Try.underlying48 hi0 hz0 hz1 hz2 rfl (by omega) v6 _ _ (by rfl) hown6 _ 1 _ _ (by rfl) hRI6 (by simp only [maxLen]; omega) (by omega) hB6 ?_
               intro v7 w7 hown7 hB7 g7)
            | (refine step_append_made w5 _ (by rfl) (.tmp 150) (.tmp 152) _ (by rfl) 50 i0 _ 4 56 Try.underlying48 hi0 hz0 hz1 hz2 rfl (by omega) v6 _ _ (by rfl) (owns_keep hown6 ((Below.refl _ _).alloc (Nat.le_refl _) (.cells #[.int .i64 xm, .int .i64 ns, .string na, .slice none 0 0] 50))) _ 1 _ _ (by rfl) (rd_one_item (Blk.new w6 50 (enc_item ⟨xm, ns, na, none, 0, 0⟩).toArray (0, 0))) (by simp only [maxLen]; omega) (by omega) (made_alloc hB6 _) ?_
               intro v7 w7 hown7 hB7 g7)
            | (refine step_append_made w5 w7 (by rfl) (.tmp 153) (.tmp 157) _ (by rfl) 50 i0 _ 4 56 Try.underlying48 hi0 hz0 hz1 hz2 rfl (by omega) v7 _ _ (by rfl) hown7 _ 0 _ [] (by rfl) (rd_zero _ _) (by simp only [maxLen]; omega) (by omega) hB7 ?_
               intro v8 w8 hown8 hB8 g8))
        all_goals
          go_wp2_with fail
          have hf := HFLAT.out
          rw [HDN.out, List.flatMap_nil] at hf
          rw [List.nil_append, hf] at hown8
          obtain ⟨A5, c5, rfl, _, _, _⟩ := own_rd hown8 (row_one encOk_item _)
          go_meet
          have hl5 : 0 + (j + 1) + 1 + 0 = (putL l (j + 1) ⟨xm, ns, na, none, 0, 0⟩).length := by have := HCL.out; omega
          exact ⟨rfl, A5, _, c5, putL l (j + 1) ⟨xm, ns, na, none, 0, 0⟩, rfl, ⟨HM5.out.anew hown8 hB8 hl5 rfl, fun z hz => (putL_mem hz).elim (fun e => by rw [e]; exact ⟨rfl, rfl⟩) (HBARE.out z), hl5, by have := HCL.out; omega, HX5.out.keep hB8, HB5.out.trans (hB8.mono HM5.out.le)⟩⟩
      · skip
        go_upto_region 28 with (fail)
        go_region_held3 (fun w' => (w'.cell? ⟨w3.heap.size, 0, none⟩ = some (.int .i64 xm) ∧ w'.cell? ⟨w3.heap.size, 1, none⟩ = some (.int .i64 ns) ∧ w'.cell? ⟨w3.heap.size, 2, none⟩ = some (.string na) ∧ w'.cell? ⟨w3.heap.size, 3, none⟩ = some (.slice none 0 0)) ∧ Below w5.heap.size w5 w')
          (first | exact KS.out _ hB0 | exact KS.out _ (made_alloc hB0 _) | exact KS.out _ (made_alloc (made_alloc hB0 _) _) | exact KS.out _ hB8 | exact KS.out _ hB7 | exact KS.out _ (made_alloc hB7 _) | exact KS.out _ hB6 | exact KS.out _ (made_alloc hB6 _))
          (first
            | (refine step_append_made w5 _ (by rfl) (.tmp 145) (.tmp 149) _ (by rfl) 50 i0 _ 4 56 Try.underlying48 hi0 hz0 hz1 hz2 rfl (by omega) _ 0 [] (by rfl) (made_new w5 w5.drew _ _ hB0) _ (j + 1) _ _ (by rfl) (hrA.out.keep (made_alloc hB0 _)) (by simp only [maxLen]; omega) (by omega) (made_alloc hB0 _) ?_
               intro v6 w6 hown6 hB6 g6)
            | (refine step_append_made w5 _ (by rfl) (.tmp 145) (.tmp 149) _ (by rfl) 50 i0 _ 4 56 Try.underlying48 hi0 hz0 hz1 hz2 rfl (by omega) _ 0 [] (by rfl) HN2.out _ (j + 1) _ _ (by rfl) (hrA.out.keep HB22.out) (by simp only [maxLen]; omega) (by omega) HB22.out ?_
               intro v6 w6 hown6 hB6 g6
               have hRI6 : Rd w6 (some ⟨w5.heap.size + 1, 0, none⟩) 1 4 (enc_item ⟨xm, ns, na, none, 0, 0⟩) := rd_grown (a := w5.heap.size) HI2.out g6 (by omega))
            | (refine step_append_made w5 _ (by rfl) (.tmp 145) (.tmp 149) _ (by rfl) 50 i0 _ 4 56 Try.underlying48 hi0 hz0 hz1 hz2 rfl (by omega) _ 0 [] (by rfl) HN3.out _ (j + 1) _ _ (by rfl) (hrA.out.keep HB33.out) (by simp only [maxLen]; omega) (by omega) HB33.out ?_
               intro v6 w6 hown6 hB6 g6
               have hRI6 : Rd w6 (some ⟨w5.heap.size, 0, none⟩) 1 4 (enc_item ⟨xm, ns, na, none, 0, 0⟩) := rd_grown (a := w5.heap.size + 1) HI3.out g6 (by omega))
            | (refine step_append_made w5 w6 (by rfl) (.tmp 150) (.tmp 152) _ (by rfl) 50 i0 _ 4 56 Try.underlying48 hi0 hz0 hz1 hz2 rfl (by omega) v6 _ _ (by rfl) hown6 _ 1 _ _ (by rfl) hRI6 (by simp only [maxLen]; omega) (by omega) hB6 ?_
               intro v7 w7 hown7 hB7 g7)
            | (refine step_append_made w5 _ (by rfl) (.tmp 150) (.tmp 152) _ (by rfl) 50 i0 _ 4 56 Try.underlying48 hi0 hz0 hz1 hz2 rfl (by omega) v6 _ _ (by rfl) (owns_keep hown6 ((Below.refl _ _).alloc (Nat.le_refl _) (.cells #[.int .i64 xm, .int .i64 ns, .string na, .slice none 0 0] 50))) _ 1 _ _ (by rfl) (rd_one_item (Blk.new w6 50 (enc_item ⟨xm, ns, na, none, 0, 0⟩).toArray (0, 0))) (by simp only [maxLen]; omega) (by omega) (made_alloc hB6 _) ?_
               intro v7 w7 hown7 hB7 g7)
            | (refine step_append_made w5 w7 (by rfl) (.tmp 153) (.tmp 157) _ (by rfl) 50 i0 _ 4 56 Try.underlying48 hi0 hz0 hz1 hz2 rfl (by omega) v7 _ _ (by rfl) hown7 _ (n - (j + 1)) _ _ (by first | rfl | (simp; omega)) ((hrB.out _ (fun h => by first | rfl | omega)).keep hB7) (by simp only [maxLen]; omega) (by omega) hB7 ?_
               intro v8 w8 hown8 hB8 g8))
        all_goals
          go_wp2_with fail
          rw [List.nil_append, HFLAT.out] at hown8
          obtain ⟨A5, c5, rfl, _, _, _⟩ := own_rd hown8 (row_one encOk_item _)
          go_meet
          have hl5 : 0 + (j + 1) + 1 + (n - (j + 1)) = (putL l (j + 1) ⟨xm, ns, na, none, 0, 0⟩).length := by have := HCL.out; omega
          exact ⟨rfl, A5, _, c5, putL l (j + 1) ⟨xm, ns, na, none, 0, 0⟩, rfl, ⟨HM5.out.anew hown8 hB8 hl5 rfl, fun z hz => (putL_mem hz).elim (fun e => by rw [e]; exact ⟨rfl, rfl⟩) (HBARE.out z), hl5, by have := HCL.out; omega, HX5.out.keep hB8, HB5.out.trans (hB8.mono HM5.out.le)⟩⟩
end Go.Proofs.Ytoehpladbdefkaa

