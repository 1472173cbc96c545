/- arbourlaw18.do (printed by wip/tools/gendo.py). -/
import Derived.Test.YtoehpladbdefkaaOpenDoL
import Derived.Deep.RegionHeld3
import Derived.Deep.RegionWith
namespace Go.Proofs.Ytoehpladbdefkaa
open Go.RowKit Go.BigFrame

theorem blk_new1 (W : World) (o : Obj) (e : TypeId) (cs : Array Value) : Blk ((W.alloc o).alloc (.cells cs e)) (W.heap.size + 1) e cs (0, 0) := by
  have := Blk.new (W.alloc o) e cs (0, 0)
  rw [show (W.alloc o).heap.size = W.heap.size + 1 by simp] at this
  exact this
theorem made_new1 (w1 W : World) (o : Obj) (e : TypeId) (k : Nat) (h : Below w1.heap.size w1 W) : ((W.alloc o).alloc (.cells #[] e)).ownsRow w1.heap.size e k (.slice (some ⟨W.heap.size + 1, 0, none⟩) 0 0) 0 [] := by
  have := made_new w1 (W.alloc o) e k (made_alloc h o)
  rw [show (W.alloc o).heap.size = W.heap.size + 1 by simp] at this
  exact this

set_option maxHeartbeats 8000000 in
set_option maxRecDepth 100000 in
theorem do1 (G : Nat → Prop) (B : Nat) (w : World) (q : Nat) (l : List It) (A : Option Addr) (n c : Nat) (xk xh xn xm : Int) (xs : Bool) (h : LG G B w q l (.slice A n c) l) (hbare : ∀ y ∈ l, bareI y) (hn : n = l.length) (hsz : n ≤ 100000) (hk : xk = 1) :
    Calls Try.prog 53 #[.pointer (some ⟨q, 0, none⟩), .slice A n c, .agg #[.int .i64 xk, .int .i64 xh, .int .i64 xn, .int .i64 xm, .bool xs]] w (DoOut G B w q n) := by
  obtain ⟨F, hP, hFl⟩ := Play.start (x := ⟨xk, xh, xn, xm, xs⟩) h
  obtain ⟨w0, hw0⟩ : ∃ w0, w0 = w.alloc (.cells (enc_as ⟨xk, xh, xn, xm, xs⟩).toArray 53) := ⟨_, rfl⟩
  rw [← hw0] at hP
  have HP := Lib.hid hP
  have HW0 := Lib.hid hw0.symm
  have HFL := Lib.hid hFl
  have HBARE := Lib.hid hbare
  have HN := Lib.hid hn
  have HNM := Lib.hid (fun (z : Int) (m : After w0) => names_keep z m.W)
  have a0 : ∀ m : After w0, m.W.cell? ⟨w.heap.size, 2, none⟩ = some (.int .i64 xn) := fun m => (var_bg (hP.box.keep m.below)).2.2.1
  have a1 : ∀ m : After w0, m.W.cell? ⟨w.heap.size, 3, none⟩ = some (.int .i64 xm) := fun m => (var_bg (hP.box.keep m.below)).2.2.2.1
  have f1 : (xk == 1) = true := by rw [hk]; decide
  clear hk
  have hel := fun W => el_keep W ⟨xk, xh, xn, xm, xs⟩
  unfold elI val_item val_as at hel
  simp only at hel
  obtain ⟨ns, hns⟩ : ∃ z : Int, (if xs = true then (2 : Int) else 1) = z := ⟨_, rfl⟩
  rw [hns] at hel
  have HEL := Lib.hid hel
  clear hel hns
  clear hP hw0 hFl hbare hn h
  go_enter Try.func53, Try.ntmps53
  go_upto_region 1 with (fail)
  rw [show w.alloc (.cells #[.int .i64 xk, .int .i64 xh, .int .i64 xn, .int .i64 xm, .bool xs] 53) = w0 from HW0.out]
  refine wp_region_after (by kernel_rfl) (by kernel_rfl) ?_
  repeat (any_goals (go_big_quiet_step ((go_at_call 16; with_reducible exact call_after (HNM.out _ _)))))
  refine wpQuiet_nil ?_
  rintro w' ⟨n1, rfl⟩
  have HP1 := Lib.hid (HP.out.keep n1.below)
  clear a0 a1 HP HNM
  generalize n1.W = w1 at *
  have HPL := Lib.hid (place18 w1 A n c l xh HP1.out.lm.rdI.1 (by omega))
  have hcc : n ≤ c := HP1.out.lm.rdI.2
  obtain ⟨b0, b1, b2, b3, b4⟩ := var_bg HP1.out.box
  generalize nameAt xn = na at *
  generalize nameAt xm = nb at *
  go_wp2_with fail
  refine HPL.out.mono ?_
  rintro e w2 ⟨rfl, rfl⟩
  go_upto_block 0 with (fail)
  go_cut [1, 10, 11] (fun s1 s10 s11 wx => s11 = .bool true ∧ ∃ A' n' c' l', s1 = .slice A' n' c' ∧ Hid (DoAt G B w wx q l' A' n' c' n ⟨xk, xh, xn, xm, xs⟩))
  case rest =>
    obtain ⟨rfl, A', n', c', l', rfl, HD⟩ := hcut
    have HTL := Lib.hid (tells18 B wc q l' A' n' c' ⟨xk, xh, xn, xm, xs⟩ HD.out.lm.lm HD.out.bare HD.out.len (by have := HD.out.small; omega))
    unfold val_as at HTL
    simp only at HTL
    clear b0 b1 b2 b3 b4
    obtain ⟨e0, e1, e2, e3, e4⟩ := var_bg HD.out.box
    go_wp2_with fail
    refine HTL.out.mono ?_
    rintro e w9 ⟨rfl, b9⟩
    have HD9 := Lib.hid (HD.out.keep b9)
    clear b9
    go_wp2_with fail
    go_ret2
    exact ⟨A', n', c', l', rfl, HD9.out.lm, HD9.out.bare, HD9.out.len, HD9.out.small, HD9.out.below, HD9.out.box.kept⟩
  case first =>
    obtain ⟨i0, hi0, hz0, hz1, hz2⟩ := info_parts info_item
    go_wp2_with fail
    refine (HEL.out _).mono ?_
    rintro e w3 ⟨rfl, bb⟩
    have HP3 := Lib.hid (HP1.out.keep bb)
    have HI := Lib.hid (pushF_item F w3 q l ⟨xh, ns, na, none, 0, 0⟩ HP3.out.list (by have := HN.out; omega))
    unfold val_item at HI
    simp only at HI
    clear bb b0 b1 b2 b3 b4
    go_wp2_with fail
    refine HI.out.mono ?_
    rintro e w5 ⟨rfl, hl5, hb5⟩
    obtain ⟨hm5, hB5, hx5⟩ := HP3.out.turn w5 _ (fun k => F k ∨ w3.heap.size ≤ k) (fun k hk => hk) hl5 hb5
    have HM5 := Lib.hid hm5
    have HB5 := Lib.hid hB5
    have HX5 := Lib.hid hx5
    have hB0 := made_drew w5
    have hrA : Hid (Rd w5 A n 4 (l.flatMap enc_item)) := hm5.rdI.1.2
    have hflat : l.flatMap enc_item ++ enc_item ⟨xh, ns, na, none, 0, 0⟩ = (l ++ [(⟨xh, ns, na, none, 0, 0⟩ : It)]).flatMap enc_item := by rw [List.flatMap_append]; simp
    have HFLAT := Lib.hid hflat
    have HCL := Lib.hid (show (l ++ [(⟨xh, ns, na, none, 0, 0⟩ : It)]).length = n + 1 by have := HN.out; simp; omega)
    have KS := Lib.hid (fun W (hW : Below w5.heap.size w5 W) => (show (W.cell? ⟨w.heap.size, 0, none⟩ = some (.int .i64 xk) ∧ W.cell? ⟨w.heap.size, 1, none⟩ = some (.int .i64 xh) ∧ W.cell? ⟨w.heap.size, 2, none⟩ = some (.int .i64 xn) ∧ W.cell? ⟨w.heap.size, 3, none⟩ = some (.int .i64 xm) ∧ W.cell? ⟨w.heap.size, 4, none⟩ = some (.bool xs)) ∧ Below w5.heap.size w5 W from ⟨var_bg (HX5.out.keep hW), hW⟩))
    have HN1 := Lib.hid (show (w5.alloc (.cells #[] 50)).drew.ownsRow w5.heap.size 50 4 (.slice (some ⟨w5.heap.size, 0, none⟩) 0 0) 0 [] from owns_keep (made_new w5 w5 _ _ (Below.refl _ _)) (Below.refl _ _).drew)
    have HBN := Lib.hid (show Below w5.heap.size w5 (w5.alloc (.cells #[] 50)).drew from (made_alloc (Below.refl _ _) _).drew)
    have hszN : w5.heap.size < (w5.alloc (.cells #[] 50)).drew.heap.size := by show _ < (w5.alloc (.cells #[] 50)).heap.size; simp
    have HSZN := Lib.hid hszN
    clear hszN hl5 hb5 hm5 hB5 hx5 hflat
    go_upto_region 7 with (fail)
    go_region_held3 (fun W => (W.cell? ⟨w.heap.size, 0, none⟩ = some (.int .i64 xk) ∧ W.cell? ⟨w.heap.size, 1, none⟩ = some (.int .i64 xh) ∧ W.cell? ⟨w.heap.size, 2, none⟩ = some (.int .i64 xn) ∧ W.cell? ⟨w.heap.size, 3, none⟩ = some (.int .i64 xm) ∧ W.cell? ⟨w.heap.size, 4, none⟩ = some (.bool xs)) ∧ Below w5.heap.size w5 W)
      (first | exact KS.out _ hB0 | exact KS.out _ (made_alloc hB0 _) | exact KS.out _ (made_alloc (made_alloc hB0 _) _) | exact KS.out _ hB8 | exact KS.out _ hB7 | exact KS.out _ (made_alloc hB7 _) | exact KS.out _ hB6 | exact KS.out _ (made_alloc hB6 _) | exact KS.out _ hBE | exact KS.out _ (made_alloc hBE _) | exact KS.out _ (made_alloc (made_alloc hBE _) _))
      (first
            | (go_at_call 29
               first
                 | (refine (HEL.out w6).mono ?_
                    rintro e w7 ⟨rfl, hbe⟩
                    have hown7 := owns_keep hown6 hbe
                    have hB7 := below_then hB6 hB6.size hbe)
                 | (refine (HEL.out _).mono ?_
                    rintro e wE ⟨rfl, hbe⟩
                    have hownN := owns_keep HN1.out hbe
                    have hBE := below_then HBN.out HBN.out.size hbe
                    have hgt := Nat.lt_of_lt_of_le HSZN.out hbe.size)
                 | (refine (HEL.out _).mono ?_
                    rintro e wE ⟨rfl, hbe⟩
                    have hBE := below_then hB0 hB0.size hbe))
            | (refine step_append_made w5 _ (by rfl) (.tmp 36) (.tmp 37) _ (by rfl) 50 i0 _ 4 56 Try.underlying48 hi0 hz0 hz1 hz2 rfl (by omega) _ 0 [] (by rfl) (made_new w5 w5.drew _ _ hB0) _ n _ _ (by rfl) (hrA.out.keep (made_alloc hB0 _)) (by simp only [maxLen]; omega) (by omega) (made_alloc hB0 _) ?_
               intro v6 w6 hown6 hB6 g6)
            | (refine step_append_made w5 _ (by rfl) (.tmp 36) (.tmp 37) _ (by rfl) 50 i0 _ 4 56 Try.underlying48 hi0 hz0 hz1 hz2 rfl (by omega) _ 0 [] (by rfl) (hownN) _ n _ _ (by rfl) (hrA.out.keep (hBE)) (by simp only [maxLen]; omega) (by omega) (hBE) ?_
               intro v6 w6 hown6 hB6 g6)
            | (refine step_append_made w5 _ (by rfl) (.tmp 36) (.tmp 37) _ (by rfl) 50 i0 _ 4 56 Try.underlying48 hi0 hz0 hz1 hz2 rfl (by omega) _ 0 [] (by rfl) (made_new w5 wE _ _ hBE) _ n _ _ (by rfl) (hrA.out.keep (made_alloc hBE _)) (by simp only [maxLen]; omega) (by omega) (made_alloc hBE _) ?_
               intro v6 w6 hown6 hB6 g6)
            | (refine step_append_made w5 _ (by rfl) (.tmp 36) (.tmp 37) _ (by rfl) 50 i0 _ 4 56 Try.underlying48 hi0 hz0 hz1 hz2 rfl (by omega) _ 0 [] (by rfl) (owns_keep hownN ((Below.refl _ _).alloc (Nat.le_refl _) (.cells #[.int .i64 xh, .int .i64 ns, .string na, .slice none 0 0] 50))) _ n _ _ (by rfl) (hrA.out.keep (made_alloc hBE _)) (by simp only [maxLen]; omega) (by omega) (made_alloc hBE _) ?_
               intro v6 w6 hown6 hB6 g6
               have hRI6 : Rd w6 (some ⟨wE.heap.size, 0, none⟩) 1 4 (enc_item ⟨xh, ns, na, none, 0, 0⟩) := rd_grown (a := w5.heap.size) (Blk.new wE 50 (enc_item ⟨xh, ns, na, none, 0, 0⟩).toArray (0, 0)) g6 (by omega))
            | (refine step_append_made w5 _ (by rfl) (.tmp 36) (.tmp 37) _ (by rfl) 50 i0 _ 4 56 Try.underlying48 hi0 hz0 hz1 hz2 rfl (by omega) _ 0 [] (by rfl) (owns_keep (made_new w5 wE _ _ hBE) ((Below.refl _ _).alloc (Nat.le_refl _) (.cells #[.int .i64 xh, .int .i64 ns, .string na, .slice none 0 0] 50))) _ n _ _ (by rfl) (hrA.out.keep (made_alloc (made_alloc hBE _) _)) (by simp only [maxLen]; omega) (by omega) (made_alloc (made_alloc hBE _) _) ?_
               intro v6 w6 hown6 hB6 g6
               have hRI6 : Rd w6 (some ⟨wE.heap.size + 1, 0, none⟩) 1 4 (enc_item ⟨xh, ns, na, none, 0, 0⟩) := rd_grown (a := wE.heap.size) (blk_new1 wE (.cells #[] 50) 50 (enc_item ⟨xh, ns, na, none, 0, 0⟩).toArray) g6 (by omega))
            | (refine step_append_made w5 _ (by rfl) (.tmp 36) (.tmp 37) _ (by rfl) 50 i0 _ 4 56 Try.underlying48 hi0 hz0 hz1 hz2 rfl (by omega) _ 0 [] (by rfl) (made_new1 w5 wE (.cells #[.int .i64 xh, .int .i64 ns, .string na, .slice none 0 0] 50) _ _ hBE) _ n _ _ (by rfl) (hrA.out.keep (made_alloc (made_alloc hBE _) _)) (by simp only [maxLen]; omega) (by omega) (made_alloc (made_alloc hBE _) _) ?_
               intro v6 w6 hown6 hB6 g6
               have hRI6 : Rd w6 (some ⟨wE.heap.size, 0, none⟩) 1 4 (enc_item ⟨xh, ns, na, none, 0, 0⟩) := rd_grown (a := wE.heap.size + 1) ((Blk.new wE 50 (enc_item ⟨xh, ns, na, none, 0, 0⟩).toArray (0, 0)).alloc (.cells #[] 50)) g6 (by omega))
            | (refine step_append_made w5 _ (by rfl) (.tmp 38) (.tmp 41) _ (by rfl) 50 i0 _ 4 56 Try.underlying48 hi0 hz0 hz1 hz2 rfl (by omega) _ _ _ (by rfl) (hown6) _ 1 _ _ (by rfl) (hRI6) (by simp only [maxLen]; omega) (by omega) (hB6) ?_
               intro v8 w8 hown8 hB8 g8)
            | (refine step_append_made w5 _ (by rfl) (.tmp 38) (.tmp 41) _ (by rfl) 50 i0 _ 4 56 Try.underlying48 hi0 hz0 hz1 hz2 rfl (by omega) _ _ _ (by rfl) (owns_keep hown7 ((Below.refl _ _).alloc (Nat.le_refl _) (.cells #[.int .i64 xh, .int .i64 ns, .string na, .slice none 0 0] 50))) _ 1 _ _ (by rfl) (rd_one_item (Blk.new w7 50 (enc_item ⟨xh, ns, na, none, 0, 0⟩).toArray (0, 0))) (by simp only [maxLen]; omega) (by omega) (made_alloc hB7 _) ?_
               intro v8 w8 hown8 hB8 g8)
            | (refine step_append_made w5 _ (by rfl) (.tmp 38) (.tmp 41) _ (by rfl) 50 i0 _ 4 56 Try.underlying48 hi0 hz0 hz1 hz2 rfl (by omega) _ _ _ (by rfl) (owns_keep hown6 ((Below.refl _ _).alloc (Nat.le_refl _) (.cells #[.int .i64 xh, .int .i64 ns, .string na, .slice none 0 0] 50))) _ 1 _ _ (by rfl) (rd_one_item (Blk.new w6 50 (enc_item ⟨xh, ns, na, none, 0, 0⟩).toArray (0, 0))) (by simp only [maxLen]; omega) (by omega) (made_alloc hB6 _) ?_
               intro v8 w8 hown8 hB8 g8))
    all_goals
      go_wp2_with fail
      rw [List.nil_append, HFLAT.out] at hown8
      obtain ⟨A5, c5, rfl, _, _, _⟩ := own_rd hown8 (row_one encOk_item _)
      go_meet
      have hl5 : 0 + n + 1 = (l ++ [(⟨xh, ns, na, none, 0, 0⟩ : It)]).length := by have := HCL.out; omega
      exact ⟨by first | rfl | simp, A5, _, c5, l ++ [⟨xh, ns, na, none, 0, 0⟩], rfl, ⟨HM5.out.anew hown8 hB8 hl5 rfl, fun z hz => (List.mem_append.1 hz).elim (HBARE.out z) (fun e => by rw [List.mem_singleton.1 e]; exact ⟨rfl, rfl⟩), hl5, by have := HCL.out; omega, HX5.out.keep hB8, HB5.out.trans (hB8.mono HM5.out.le)⟩⟩
end Go.Proofs.Ytoehpladbdefkaa

