/- slices.Insert, Delete and Clone at item. -/
import Derived.Test.YtoehpladbdefkaaProg
import Derived.Test.YtoehpladbdefkaaBase
import Derived.WalkKit
import Derived.KernelRfl
import Derived.WalkLawsBesides
import Derived.WalkSpells
import Derived.Lib.SliceRun
namespace Go.Proofs.Ytoehpladbdefkaa
open Go.RowKit

theorem info_item : (Try.prog.info? 50).map (fun i => (i.zero, i.size, i.bytes)) = some (some (.agg #[.int .i64 0, .int .i64 0, .string ⟨#[]⟩, .slice none 0 0] : Value), 4, 56) := by kernel_rfl
theorem zero_item (w : World) : (zeroValue 50).run Try.prog w = .ok (.agg #[.int .i64 0, .int .i64 0, .string ⟨#[]⟩, .slice none 0 0]) w := by kernel_rfl
theorem size_item : (Try.prog.info? 50).map (·.size) = some 4 := by kernel_rfl
theorem sizeOf_item (w : World) : (Go.sizeOf 50).run Try.prog w = .ok 4 w := by kernel_rfl

set_option maxHeartbeats 1000000 in
set_option maxRecDepth 100000 in
theorem insert_item_end (base n vb : Nat) (v : Value) (xs xc : List Value) (w : World) (hown : w.ownsRow base 50 4 v n xs) (hbase : base ≤ w.heap.size)
    (hx : Blk w vb 50 xc.toArray (0, 0)) (hxl : xc.length = 4) (h2 : ∀ u ∈ xc, u.oneCell' = true) (hsz : (n + 1) * 56 ≤ 140737488355328) :
    Calls Try.prog 135 #[v, .int .i64 (n : Int), .slice (some ⟨vb, 0, none⟩) 1 1] w fun e w' => ∃ v', e = .returned v' ∧ w'.ownsRow base 50 4 v' (n + 1) (xs ++ xc) ∧
      w.grownBy w' v.ownBlock ∧ (v'.ownBlock = v.ownBlock ∨ v'.ownBlock = some w.heap.size) := by
  obtain ⟨i0, hi0, hz0, hz1, hz2⟩ := info_parts info_item
  have hcell : ∀ j u, xc[j]? = some u → w.cell? ((⟨vb, 0, none⟩ : Addr).add j) = some u := by
    intro j u hu
    rw [add0, hx.cell j]
    simpa using hu
  have HO := Lib.hid hown
  have HC := Lib.hid hcell
  have H2 := Lib.hid h2
  have HX := Lib.hid hxl
  clear hcell h2 hx hxl
  rcases hown.2 with ⟨rfl, rfl⟩ | ⟨g, cap, cur, rfl, _, _, hnc, hcm, _, _⟩
  · clear hown
    go_enter Try.func135, Try.ntmps135
    go_wp2_with (first
      | (at_builtin; refine wpList_append_own_at _ rfl (.tmp 23) (.tmp 24) _ rfl base 50 i0 _ 4 56 Try.underlying48 hi0 hz0 hz1 hz2 rfl (by omega) _ _ xs rfl HO.out ⟨vb, 0, none⟩ 1 1 xc rfl (by rw [HX.out]) HC.out H2.out (by simp only [maxLen]; omega) (by omega) hbase ?_; intro v1 w1 hown1 hg1 _ hat1))
    go_ret
    exact ⟨_, rfl, hown1, hg1, hat1⟩
  · clear hown
    simp only [maxLen] at hcm
    by_cases hcn : cap = n
    all_goals
      go_enter Try.func135, Try.ntmps135
      go_wp2_with (first
        | (at_builtin; refine wpList_append_own_at _ rfl (.tmp 23) (.tmp 24) _ rfl base 50 i0 _ 4 56 Try.underlying48 hi0 hz0 hz1 hz2 rfl (by omega) _ _ xs rfl HO.out ⟨vb, 0, none⟩ 1 1 xc rfl (by rw [HX.out]) HC.out H2.out (by simp only [maxLen]; omega) (by omega) hbase ?_; intro v1 w1 hown1 hg1 _ hat1))
      go_ret
      exact ⟨_, rfl, hown1, hg1, hat1⟩

set_option maxHeartbeats 1000000 in
set_option maxRecDepth 100000 in
theorem insert_item_grow (base n i vb g : Nat) (xs xc : List Value) (w : World) (hgb : Blk w g 50 xs.toArray (0, 0)) (hl : xs.length = n * 4) (h1 : ∀ u ∈ xs, u.oneCell' = true) (hbase : base ≤ w.heap.size)
    (hx : Blk w vb 50 xc.toArray (0, 0)) (hxl : xc.length = 4) (h2 : ∀ u ∈ xc, u.oneCell' = true) (hi : i < n) (hsz : (n + 1) * 56 ≤ 140737488355328) :
    Calls Try.prog 135 #[.slice (some ⟨g, 0, none⟩) n n, .int .i64 (i : Int), .slice (some ⟨vb, 0, none⟩) 1 1] w fun e w' => ∃ v', e = .returned v' ∧
      w'.ownsRow base 50 4 v' (n + 1) (xs.take (i * 4) ++ xc ++ xs.drop (i * 4)) ∧ Below w.heap.size w w' ∧ v'.ownBlock = some w.heap.size := by
  obtain ⟨i0, hi0, hz0, hz1, hz2⟩ := info_parts info_item
  have d1 : ((i : Int) == (n : Int)) = false := by rw [beq_eq_false_iff_ne]; omega
  have d2 : decide ((n : Int) < (n : Int) + 1) = true := decide_eq_true (by omega)
  have hni : ¬ n = i := by omega
  have HG := Lib.hid hgb
  have HL := Lib.hid hl
  have H1 := Lib.hid h1
  have H2 := Lib.hid h2
  have HX := Lib.hid hx
  have HXL := Lib.hid hxl
  clear hgb hl h1 h2 hx hxl
  go_enter Try.func135, Try.ntmps135
  obtain ⟨nc, rest, w1, hr, hb1, hrl, hnc1, hnc2, hbw, hws⟩ := run_grow_zeros_k w 48 3 48 50 i0 _ .i64 4 56 Try.underlying48 Try.underlying3 hi0 hz0 hz1 hz2 rfl (by omega) g i n (n + 1 - i) ((n : Int) + 1 - (i : Int)) (by omega) xs.toArray HG.out (by simp only [List.size_toArray]; rw [HL.out]; omega) (by omega) (by omega) (by omega) (by omega)
  rw [show i + (n + 1 - i) = n + 1 by omega] at hr hnc1
  have hle : i * 4 ≤ xs.length := by rw [HL.out]; omega
  have hA : (xs.take (i * 4)).length = i * 4 := by rw [List.length_take]; omega
  have hD : (xs.drop (i * 4)).length = (n - i) * 4 := by rw [List.length_drop, HL.out]; omega
  have hb2 : Blk w1 w.heap.size 50 (xs.take (i * 4) ++ rest).toArray (0, 0) := hb1
  have hx1 : Blk w1 vb 50 xc.toArray (0, 0) := HX.out.keep hbw
  have hg1 : Blk w1 g 50 xs.toArray (0, 0) := HG.out.keep hbw
  have hgne : g ≠ w.heap.size := by have := HG.out.lt; omega
  have hc1 := run_copy_parts (P := Try.prog) w1 48 48 3 50 4 w.heap.size (i * 4) (n + 1 - i) (nc - i) ⟨vb, 0, none⟩ 1 1 1 (xs.take (i * 4)) rest 50 xc Try.underlying48 size_item hb2 hA (by
      show 1 = min 1 (n + 1 - i)
      omega) (by rw [HXL.out]) (fun j v hj => by rw [add0, hx1.cell j]; simpa using hj) (by rw [HXL.out, hrl]; omega) H2.out
  generalize hw2 : w1.setRow w.heap.size (xs.take (i * 4) ++ xc ++ rest.drop xc.length).toArray = w2 at hc1
  have hb3 : Blk w2 w.heap.size 50 ((xs.take (i * 4) ++ xc) ++ rest.drop xc.length).toArray (0, 0) := by rw [← hw2]; exact hb2.setRow _
  have hg2 : Blk w2 g 50 xs.toArray (0, 0) := by rw [← hw2]; exact hg1.setRow_far hgne _
  have hbw2 : Below w.heap.size w w2 := by rw [← hw2]; exact hbw.trans ⟨rfl, rfl, rfl, by simp, fun j hj => setRow_other _ _ _ _ (by omega)⟩
  have hc2 : (Builtin.copy_ #[48, 48] 3 #[.slice (some ⟨w.heap.size, (i + 1) * 4, none⟩) (n + 1 - (i + 1)) (nc - (i + 1)), .slice (some ⟨g, i * 4, none⟩) (n - i) (n - i)]).run Try.prog w2.drew = _ :=
    run_copy_parts (P := Try.prog) w2.drew 48 48 3 50 4 w.heap.size ((i + 1) * 4) (n + 1 - (i + 1)) (nc - (i + 1)) ⟨g, i * 4, none⟩ (n - i) (n - i) (n - i) (xs.take (i * 4) ++ xc) (rest.drop xc.length) 50 (xs.drop (i * 4)) Try.underlying48 size_item hb3 (by rw [List.length_append, hA, HXL.out]; omega) (by
      show n - i = min (n - i) (n + 1 - (i + 1))
      omega) hD (fun j v hj => by
      have ha : (⟨g, i * 4, none⟩ : Addr).add j = ⟨g, i * 4 + j, none⟩ := by unfold Addr.add; split <;> simp_all
      rw [ha, World.cell?_drew, hg2.cell]
      rw [List.getElem?_drop] at hj
      simpa using hj) (by rw [hD, List.length_drop, hrl, HXL.out]; omega) (fun v hv => H1.out v (List.mem_of_mem_drop hv))
  generalize hw3 : w2.drew.setRow w.heap.size ((xs.take (i * 4) ++ xc) ++ xs.drop (i * 4) ++ (rest.drop xc.length).drop (xs.drop (i * 4)).length).toArray = w3 at hc2
  have hb4 : Blk w3 w.heap.size 50 (((xs.take (i * 4) ++ xc) ++ xs.drop (i * 4)) ++ (rest.drop xc.length).drop (xs.drop (i * 4)).length).toArray (0, 0) := by rw [← hw3]; exact Blk.setRow (w := w2.drew) hb3 _
  have hbw3 : Below w.heap.size w w3 := by rw [← hw3]; exact hbw2.drew.trans ⟨rfl, rfl, rfl, by simp, fun j hj => setRow_other _ _ _ _ (by omega)⟩
  have hown : w3.ownsRow base 50 4 (.slice (some ⟨w.heap.size, 0, none⟩) (n + 1) nc) (n + 1) ((xs.take (i * 4) ++ xc) ++ xs.drop (i * 4)) :=
    own_of_blk hbase hb4 (by rw [List.length_append, List.length_append, hA, hD, HXL.out]; omega) (by omega) hnc2 (by rw [List.length_drop, List.length_drop, hrl, hD, HXL.out]; omega)
  have e1 : n + 1 - (i + 1) = n - i := by omega
  have hcap1 : ¬ nc = i := by omega
  have hcap2 : ¬ nc = i + 1 := by omega
  rw [e1] at hc2
  (try simp only [Nat.mul_one] at hc1 hc2)
  have HR := Lib.hid hr
  have HC1 := Lib.hid hc1
  have HC2 := Lib.hid hc2
  have HO := Lib.hid hown
  have HBW := Lib.hid hbw3
  clear hr hc1 hc2 hb1 hb2 hb3 hb4 hown hw2 hw3 hx1 hg1 hg2 hbw2 hbw3 hbw hrl hA hD hws hle e1 hnc2
  go_wp2_with (first
    | (at_builtin; refine Lib.wpList_append_run _ rfl (.tmp 34) (.tmp 39) _ _ rfl _ _ rfl rfl _ _ HR.out ?_)
    | (refine Lib.wpList_copy_run _ rfl (.tmp 43) (.tmp 44) _ _ rfl _ _ rfl rfl HC1.out ?_))
  simp only [Act.put, goInt, Int.natCast_one, List.setIfInBounds_toArray, List.set_cons_succ, List.set_cons_zero]
  have s1 : IntKind.i64.wrap ((i : Int) + 1) = (i : Int) + 1 := IntWalk.i64_in _ (by omega)
  have s2 : 0 ≤ (i : Int) + 1 := by omega
  have s3 : ((i : Int) + 1).toNat = i + 1 := by omega
  have s4 : i + 1 ≤ n + 1 := by omega
  have s5 : i ≤ n := by omega
  go_still_tail 8, (by kernel_rfl)
  clear s1 s2 s3
  refine Lib.wpList_copy_run _ rfl (.tmp 50) (.tmp 53) _ _ rfl _ _ rfl rfl HC2.out ?_
  go_wp2_with fail
  go_ret
  exact ⟨_, rfl, HO.out, HBW.out, rfl⟩

set_option maxHeartbeats 1000000 in
set_option maxRecDepth 100000 in
theorem insert_item_room (base n i vb g cap : Nat) (xs xc rest : List Value) (w : World) (hg : base ≤ g) (hgb : Blk w g 50 (xs ++ rest).toArray (0, 0)) (hl : xs.length = n * 4) (hrl : rest.length = (cap - n) * 4) (h1 : ∀ u ∈ xs, u.oneCell' = true)
    (hx : Blk w vb 50 xc.toArray (0, 0)) (hxl : xc.length = 4) (hne : vb ≠ g) (h2 : ∀ u ∈ xc, u.oneCell' = true) (hi : i < n) (hnc : n + 1 ≤ cap) (hcm : cap ≤ maxLen) :
    Calls Try.prog 135 #[.slice (some ⟨g, 0, none⟩) n cap, .int .i64 (i : Int), .slice (some ⟨vb, 0, none⟩) 1 1] w fun e w' => ∃ v', e = .returned v' ∧
      w'.ownsRow base 50 4 v' (n + 1) (xs.take (i * 4) ++ xc ++ xs.drop (i * 4)) ∧ w.grownBy w' (some g) ∧ v'.ownBlock = some g := by
  obtain ⟨i0, hi0, hz0, hz1, hz2⟩ := info_parts info_item
  have d1 : ((i : Int) == (n : Int)) = false := by rw [beq_eq_false_iff_ne]; omega
  have d2 : decide ((cap : Int) < (n : Int) + 1) = false := decide_eq_false (by omega)
  have hle : i * 4 ≤ xs.length := by omega
  have hA : (xs.take (i * 4)).length = i * 4 := by rw [List.length_take]; omega
  have hD : (xs.drop (i * 4)).length = (n - i) * 4 := by rw [List.length_drop]; omega
  have hov : ∀ lb cb, (callFunc 138 #[.slice (some ⟨vb, 0, none⟩) 1 1, .slice (some ⟨g, (i + 1) * 4, none⟩) lb cb]).run Try.prog w = .ok (.value (.bool false)) w := fun lb cb => by
    have hs1 : w.shape? vb = some (50, xc.toArray.size) := by have := hx; unfold Blk at this; simp [World.shape?, this]
    have hs2 : w.shape? g = some (50, (xs ++ rest).toArray.size) := by have := hgb; unfold Blk at this; simp [World.shape?, this]
    rw [run_callFunc_extern Try.func138 (by kernel_rfl) (by kernel_rfl) (by kernel_rfl) (e := Extern.SlicesOverlaps.overlaps #[48, 48] #[4]) (by kernel_rfl),
      Lib.run_overlaps_apart w 48 4 50 Try.underlying48 4 sizeOf_item ⟨vb, 0, none⟩ ⟨g, (i + 1) * 4, none⟩ 1 1 lb cb hne _ _ _ _ hs1 hs2 (by simp only [List.size_toArray, List.length_append]; omega) (hx.frozen 0 (.inr (Nat.zero_le _))) (hx.frozen _ (.inr (Nat.zero_le _)))]
    rfl
  -- the block, in four pieces
  have hq : ((xs.drop (i * 4) ++ rest).take 4).length = 4 := by rw [List.length_take, List.length_append, hD, hrl]; omega
  have hsplit : xs ++ rest = (xs.take (i * 4) ++ (xs.drop (i * 4) ++ rest).take 4) ++ (xs.drop (i * 4) ++ rest).drop 4 := by
    rw [List.append_assoc, List.take_append_drop, ← List.append_assoc, List.take_append_drop]
  have hgb' : Blk w.drew g 50 ((xs.take (i * 4) ++ (xs.drop (i * 4) ++ rest).take 4) ++ (xs.drop (i * 4) ++ rest).drop 4).toArray (0, 0) := by rw [← hsplit]; exact hgb
  have hc1 := run_copy_parts (P := Try.prog) w.drew 48 48 3 50 4 g ((i + 1) * 4) (n + 1 - (i + 1)) (cap - (i + 1)) ⟨g, i * 4, none⟩ (n + 1 - i) (cap - i) (n - i) (xs.take (i * 4) ++ (xs.drop (i * 4) ++ rest).take 4) ((xs.drop (i * 4) ++ rest).drop 4) 50 (xs.drop (i * 4)) Try.underlying48 size_item hgb' (by rw [List.length_append, hA, hq]; omega) (by
      show n - i = min (n + 1 - i) (n + 1 - (i + 1))
      omega) hD (fun j v hj => by
      have ha : (⟨g, i * 4, none⟩ : Addr).add j = ⟨g, i * 4 + j, none⟩ := by unfold Addr.add; split <;> simp_all
      rw [ha, World.cell?_drew, hgb.cell]
      rw [List.getElem?_drop] at hj
      have hlt : i * 4 + j < xs.length := (List.getElem?_eq_some_iff.1 hj).1
      simp only [List.getElem?_toArray, List.getElem?_append_left hlt]
      exact hj) (by rw [hD, List.length_drop, List.length_append, hD, hrl]; omega) (fun v hv => h1 v (List.mem_of_mem_drop hv))
  generalize hw2 : w.drew.setRow g ((xs.take (i * 4) ++ (xs.drop (i * 4) ++ rest).take 4) ++ xs.drop (i * 4) ++ ((xs.drop (i * 4) ++ rest).drop 4).drop (xs.drop (i * 4)).length).toArray = w2 at hc1
  have hb2 : Blk w2 g 50 (xs.take (i * 4) ++ ((xs.drop (i * 4) ++ rest).take 4 ++ xs.drop (i * 4) ++ ((xs.drop (i * 4) ++ rest).drop 4).drop (xs.drop (i * 4)).length)).toArray (0, 0) := by
    have := Blk.setRow (w := w.drew) hgb' ((xs.take (i * 4) ++ (xs.drop (i * 4) ++ rest).take 4) ++ xs.drop (i * 4) ++ ((xs.drop (i * 4) ++ rest).drop 4).drop (xs.drop (i * 4)).length).toArray
    rw [hw2] at this
    simpa only [List.append_assoc] using this
  have hx2 : Blk w2 vb 50 xc.toArray (0, 0) := by rw [← hw2]; exact Blk.setRow_far (w := w.drew) hx hne _
  have hbw2 : w.grownBy w2 (some g) := by rw [← hw2]; exact World.grownBy.trans (show w.grownBy w.drew (some g) from ⟨rfl, rfl, rfl, Nat.le_refl _, fun _ _ _ => rfl⟩) (grownBy_setRow w.drew g _)
  have hc2 := run_copy_parts (P := Try.prog) w2 48 48 3 50 4 g (i * 4) (n + 1 - i) (cap - i) ⟨vb, 0, none⟩ 1 1 1 (xs.take (i * 4)) _ 50 xc Try.underlying48 size_item hb2 hA (by
      show 1 = min 1 (n + 1 - i)
      omega) (by rw [hxl]) (fun j v hj => by rw [add0, hx2.cell j]; simpa using hj) (by simp only [List.length_append, hq, hxl]; omega) h2
  generalize hw3 : w2.setRow g (xs.take (i * 4) ++ xc ++ ((xs.drop (i * 4) ++ rest).take 4 ++ xs.drop (i * 4) ++ ((xs.drop (i * 4) ++ rest).drop 4).drop (xs.drop (i * 4)).length).drop xc.length).toArray = w3 at hc2
  have hb3 : Blk w3 g 50 ((xs.take (i * 4) ++ xc ++ xs.drop (i * 4)) ++ ((xs.drop (i * 4) ++ rest).drop 4).drop (xs.drop (i * 4)).length).toArray (0, 0) := by
    have := hb2.setRow (xs.take (i * 4) ++ xc ++ ((xs.drop (i * 4) ++ rest).take 4 ++ xs.drop (i * 4) ++ ((xs.drop (i * 4) ++ rest).drop 4).drop (xs.drop (i * 4)).length).drop xc.length).toArray
    rw [hw3] at this
    rw [hxl, List.append_assoc ((xs.drop (i * 4) ++ rest).take 4), drop_left _ _ _ hq] at this
    simpa only [List.append_assoc] using this
  have hbw3 : w.grownBy w3 (some g) := by rw [← hw3]; exact World.grownBy.trans hbw2 (grownBy_setRow w2 g _)
  have hown : w3.ownsRow base 50 4 (.slice (some ⟨g, 0, none⟩) (n + 1) cap) (n + 1) (xs.take (i * 4) ++ xc ++ xs.drop (i * 4)) :=
    own_of_blk hg hb3 (by rw [List.length_append, List.length_append, hA, hD, hxl]; omega) hnc hcm (by simp only [List.length_drop, List.length_append]; rw [hl, hrl]; omega)
  have e1 : n + 1 - (i + 1) = n - i := by omega
  rw [e1] at hc1
  have hcap1 : ¬ cap = i := by omega
  have hcap2 : ¬ cap = i + 1 := by omega
  (try simp only [Nat.mul_one] at hc1 hc2 hov)
  simp only [maxLen] at hcm
  have HC1 := Lib.hid hc1
  have HC2 := Lib.hid hc2
  have HO := Lib.hid hown
  have HBW := Lib.hid hbw3
  clear hc1 hc2 hb2 hb3 hown hw2 hw3 hx hgb hgb' hsplit hx2 hbw2 hbw3 hq hrl hA hD hle e1 hl h1 h2 hxl
  go_enter Try.func135, Try.ntmps135
  go_wp2_with (simp only [hov])
  have s1 : IntKind.i64.wrap ((i : Int) + 1) = (i : Int) + 1 := IntWalk.i64_in _ (by omega)
  have s2 : 0 ≤ (i : Int) + 1 := by omega
  have s3 : ((i : Int) + 1).toNat = i + 1 := by omega
  have s4 : i + 1 ≤ n + 1 := by omega
  have s5 : i ≤ n := by omega
  have s6 : i ≤ n + 1 := by omega
  have s7 : (i : Int) ≤ (n : Int) + 1 := by omega
  go_still_tail 8, (by kernel_rfl)
  clear s1 s2 s3
  refine Lib.wpList_copy_run _ rfl (.tmp 73) (.tmp 76) _ _ rfl _ _ rfl rfl HC1.out ?_
  go_wp2_with (refine Lib.wpList_copy_run _ rfl (.tmp 80) (.tmp 81) _ _ rfl _ _ rfl rfl HC2.out ?_)
  go_ret
  exact ⟨_, rfl, HO.out, HBW.out, rfl⟩

/-- slices.Insert of one element, wherever it is. -/
theorem insert_item (base n i vb : Nat) (v : Value) (xs xc : List Value) (w : World) (hown : w.ownsRow base 50 4 v n xs) (h1 : ∀ u ∈ xs, u.oneCell' = true) (hbase : base ≤ w.heap.size)
    (hx : Blk w vb 50 xc.toArray (0, 0)) (hxl : xc.length = 4) (hne : v.ownBlock ≠ some vb) (h2 : ∀ u ∈ xc, u.oneCell' = true) (hi : i ≤ n) (hsz : (n + 1) * 56 ≤ 140737488355328) :
    Calls Try.prog 135 #[v, .int .i64 (i : Int), .slice (some ⟨vb, 0, none⟩) 1 1] w fun e w' => ∃ v', e = .returned v' ∧ w'.ownsRow base 50 4 v' (n + 1) (xs.take (i * 4) ++ xc ++ xs.drop (i * 4)) ∧
      w.grownBy w' v.ownBlock ∧ (v'.ownBlock = v.ownBlock ∨ v'.ownBlock = some w.heap.size) := by
  have hl := hown.1
  rcases Nat.lt_or_ge i n with hlt | hge
  · obtain ⟨g, cap, rest, rfl, hg, hgb, hnc, hcm, hrl⟩ := own_parts hown (by omega)
    rcases Nat.eq_or_lt_of_le hnc with rfl | hcl
    · have hr0 : rest = [] := List.eq_nil_of_length_eq_zero (by rw [hrl]; simp)
      subst hr0
      rw [List.append_nil] at hgb
      refine (insert_item_grow base n i vb g xs xc w hgb hl h1 hbase hx hxl h2 hlt hsz).mono ?_
      rintro e w' ⟨v', he, ho, hb, hv⟩
      exact ⟨v', he, ho, ⟨hb.os, hb.tape, hb.output, hb.size, fun j hj _ => hb.block j hj⟩, .inr hv⟩
    · refine (insert_item_room base n i vb g cap xs xc rest w hg hgb hl hrl h1 hx hxl (fun e => hne (by rw [e]; rfl)) h2 hlt (by omega) hcm).mono ?_
      rintro e w' ⟨v', he, ho, hb, hv⟩
      exact ⟨v', he, ho, hb, .inl hv⟩
  · obtain rfl : i = n := by omega
    have ht : xs.take (i * 4) = xs := List.take_of_length_le (by omega)
    have hd : xs.drop (i * 4) = [] := List.drop_eq_nil_of_le (by omega)
    rw [ht, hd, List.append_nil]
    exact insert_item_end base i vb v xs xc w hown hbase hx hxl h2 hsz

set_option maxHeartbeats 1000000 in
set_option maxRecDepth 100000 in
/-- slices.Delete of one element. -/
theorem delete_item (base m i : Nat) (v : Value) (xs : List Value) (w : World) (hown : w.ownsRow base 50 4 v (m + 1) xs) (h1 : ∀ u ∈ xs, u.oneCell' = true) (hi : i ≤ m) :
    Calls Try.prog 134 #[v, .int .i64 (i : Int), .int .i64 ((i : Int) + 1)] w fun e w' => ∃ v', e = .returned v' ∧
      w'.ownsRow base 50 4 v' m (xs.take (i * 4) ++ xs.drop ((i + 1) * 4)) ∧ w.grownBy w' v.ownBlock ∧ v'.ownBlock = v.ownBlock := by
  have hl := hown.1
  obtain ⟨g, cap, rest, rfl, hg, hgb, hnc, hcm, hrl⟩ := own_parts hown (by omega)
  clear hown
  have hA : (xs.take (i * 4)).length = i * 4 := by rw [List.length_take]; omega
  have hD : (xs.drop ((i + 1) * 4)).length = (m - i) * 4 := by rw [List.length_drop]; omega
  have hap : ∀ ad, (0 < (xs.drop ((i + 1) * 4)).length → ad = (⟨g, (i + 1) * 4, none⟩ : Addr)) → ∀ sc, (Builtin.append_ #[48, 48] 48 #[.slice (some ⟨g, 0, none⟩) i cap, .slice (some ad) (m - i) sc]).run Try.prog w.drew = _ := fun ad had sc =>
    run_append_room_k (P := Try.prog) w.drew 48 48 50 4 g i cap (some ad) (m - i) sc (xs ++ rest).toArray 50 (xs.drop ((i + 1) * 4)) Try.underlying48 size_item hgb hD (by omega)
      (fun h0 => ⟨ad, rfl, fun j v hj => by
        rw [had h0]
        have ha : (⟨g, (i + 1) * 4, none⟩ : Addr).add j = ⟨g, (i + 1) * 4 + j, none⟩ := by unfold Addr.add; split <;> simp_all
        rw [ha, World.cell?_drew, hgb.cell]
        rw [List.getElem?_drop] at hj
        have hlt : (i + 1) * 4 + j < xs.length := (List.getElem?_eq_some_iff.1 hj).1
        simp only [List.getElem?_toArray, List.getElem?_append_left hlt]
        exact hj⟩) (fun h => by cases h) (by rw [hD]; simp only [List.size_toArray, List.length_append]; omega) (fun v hv => h1 v (List.mem_of_mem_drop hv))
  have hT : (xs ++ rest).take (i * 4) = xs.take (i * 4) := by rw [List.take_append_of_le_length (by omega)]
  have hRl : ((xs ++ rest).drop (i * 4 + (xs.drop ((i + 1) * 4)).length)).length = (cap - m) * 4 := by rw [List.length_drop, List.length_append, hD]; omega
  simp only [hT, show i + (m - i) = m by omega] at hap
  generalize hw2 : w.drew.setRow g (xs.take (i * 4) ++ xs.drop ((i + 1) * 4) ++ (xs ++ rest).drop (i * 4 + (xs.drop ((i + 1) * 4)).length)).toArray = w2 at hap
  generalize (xs ++ rest).drop (i * 4 + (xs.drop ((i + 1) * 4)).length) = R at hw2 hRl
  have hb2 : Blk w2 g 50 ((xs.take (i * 4) ++ xs.drop ((i + 1) * 4)) ++ R).toArray (0, 0) := by rw [← hw2]; exact Blk.setRow (w := w.drew) hgb _
  have hN : (xs.take (i * 4) ++ xs.drop ((i + 1) * 4)).length = m * 4 := by rw [List.length_append, hA, hD]; omega
  have hbw2 : w.grownBy w2 (some g) := by rw [← hw2]; exact World.grownBy.trans (show w.grownBy w.drew (some g) from ⟨rfl, rfl, rfl, Nat.le_refl _, fun _ _ _ => rfl⟩) (grownBy_setRow w.drew g _)
  obtain ⟨zs, hzl, hz1', hclr⟩ := run_clear_k (P := Try.prog) w2 48 0 50 4 g (m * 4) 1 (cap - m) (.agg #[.int .i64 0, .int .i64 0, .string ⟨#[]⟩, .slice none 0 0]) _ 50 Try.underlying48 zero_item rfl (by decide) hb2 (by decide) (by simp only [List.size_toArray]; rw [List.length_append, hN, hRl]; omega)
  have hclr' : ∀ ty, (Builtin.clear_ #[48] ty #[.slice (some ⟨g, m * 4, none⟩) 1 (cap - m)]).run Try.prog w2 = _ := fun ty => hclr
  have e3 : (((xs.take (i * 4) ++ xs.drop ((i + 1) * 4)) ++ R).toArray.toList.take (m * 4)) = (xs.take (i * 4) ++ xs.drop ((i + 1) * 4)) := take_left _ _ _ hN
  rw [e3] at hclr'
  generalize hw3 : w2.setRow g _ = w3 at hclr'
  have hb3 : Blk w3 g 50 ((xs.take (i * 4) ++ xs.drop ((i + 1) * 4)) ++ (zs ++ (((xs.take (i * 4) ++ xs.drop ((i + 1) * 4)) ++ R).toArray.toList.drop (m * 4 + zs.length)))).toArray (0, 0) := by
    rw [← List.append_assoc, ← hw3]; exact Blk.setRow hb2 _
  have hown : w3.ownsRow base 50 4 (.slice (some ⟨g, 0, none⟩) m cap) m (xs.take (i * 4) ++ xs.drop ((i + 1) * 4)) :=
    own_of_blk hg hb3 hN (by omega) hcm (by rw [List.length_append, List.length_drop, hzl]; rw [List.length_append, hN, hRl]; omega)
  have hbw3 : w.grownBy w3 (some g) := by rw [← hw3]; exact World.grownBy.trans hbw2 (grownBy_setRow w2 g _)
  have d1 : ((i : Int) == (i : Int) + 1) = false := by rw [beq_eq_false_iff_ne]; omega
  have hD0 : cap = i + 1 → ¬ 0 < (xs.drop ((i + 1) * 4)).length := by
    intro h
    have h0 : m - i = 0 := by omega
    rw [hD, h0]
    simp
  (try simp only [Nat.mul_one] at hap hclr' hD0)
  simp only [maxLen] at hcm
  have HA := Lib.hid hap
  have HC := Lib.hid hclr'
  have HO := Lib.hid hown
  have HBW := Lib.hid hbw3
  have HD0 := Lib.hid hD0
  clear hap hclr hclr' hown hb2 hb3 hw2 hw3 hN hRl hD hA hl h1 hgb e3 hbw2 hbw3 hz1' hzl hrl hT hD0
  have hcm0 : ¬ cap = m := by omega
  have hcm1 : ¬ m + 1 = i := by omega
  have hcm2 : ¬ cap = i := by omega
  have s1 : 0 ≤ (i : Int) + 1 := by omega
  have s2 : ((i : Int) + 1).toNat = i + 1 := by omega
  have s3 : (i : Int) ≤ (cap : Int) := by omega
  have s4 : i ≤ cap := by omega
  have s5 : (i : Int) + 1 ≤ (m : Int) + 1 := by omega
  have s6 : i ≤ m + 1 := by omega
  have s7 : m ≤ cap := by omega
  by_cases hci : cap = i + 1
  · obtain rfl : m = i := by omega
    subst hci
    have s8 : (m : Int) ≤ (m : Int) + 1 := by omega
    have HA1 := HA.out ⟨g, 0, none⟩ (fun h => absurd h (HD0.out rfl))
    simp only [Nat.sub_self] at HA1
    have HA2 := Lib.hid HA1
    clear HA1 HA HD0 hcm0 hcm1 hcm2
    go_enter Try.func134, Try.ntmps134
    go_wp2_with fail
    go_still_tail 6, (by kernel_rfl)
    refine Lib.wpList_append_run _ rfl (.tmp 22) (.tmp 25) _ _ rfl _ _ rfl rfl _ _ (HA2.out _) ?_
    have HCC := HC.out
    simp only [Nat.add_sub_cancel_left] at HCC
    go_wp2_with fail
    go_ret
    exact ⟨_, rfl, HO.out, HBW.out, rfl⟩
  · have HA1 := HA.out _ (fun _ => rfl)
    have HA2 := Lib.hid HA1
    clear HA1 HA HD0
    go_enter Try.func134, Try.ntmps134
    go_wp2_with fail
    go_still_tail 6, (by kernel_rfl)
    refine Lib.wpList_append_run _ rfl (.tmp 22) (.tmp 25) _ _ rfl _ _ rfl rfl _ _ (HA2.out _) ?_
    have HCC := HC.out
    go_wp2_with fail
    go_ret
    exact ⟨_, rfl, HO.out, HBW.out, rfl⟩

theorem clone_after_item (base : Nat) (w w1 : World) (v1 : Value) (n : Nat) (xs : List Value) (hbase : base ≤ w.heap.size) (hown1 : w1.ownsRow (w.alloc (.cells #[] 50)).heap.size 50 4 v1 (0 + n) ([] ++ xs)) (hg1 : (w.alloc (.cells #[] 50)).grownBy w1 none) :
    Hid (w1.ownsRow base 50 4 v1 n xs) ∧ Hid (Below w.heap.size w w1 ∧ ∀ g, v1.ownBlock = some g → w.heap.size ≤ g) := by
  rw [Nat.zero_add, List.nil_append] at hown1
  have hlo : ∀ g, v1.ownBlock = some g → w.heap.size ≤ g := fun g hg => by
    have := (hown1.lt g hg).1
    simp at this
    omega
  refine ⟨?_, ?_, hlo⟩
  · refine ⟨hown1.1, ?_⟩
    rcases hown1.2 with hl | ⟨g, cap, cur, hv, hb, hr⟩
    · exact .inl hl
    · exact .inr ⟨g, cap, cur, hv, Nat.le_trans hbase (hlo g (by rw [hv]; rfl)), hr⟩
  · exact ((Below.refl _ _).alloc (Nat.le_refl _) _).trans ⟨hg1.os, hg1.tape, hg1.output, hg1.size, fun k hk => hg1.block k (by simp; omega) (by simp)⟩

/-- slices.Clone. -/
theorem clone_nil_item (w : World) : Calls Try.prog 116 #[.slice none 0 0] w fun e w' => e = .returned (.slice none 0 0) ∧ w = w' := by
  have q22 : ∀ (w : World) (a : Option Addr) (n c n' c' : Nat), (binOp .eql 48 (.slice a n c) (.slice none n' c')).run Try.prog w = .ok (.bool a.isNone) w := fun w a n c n' c' => Lib.run_eql_slice_nil w _ _ a n c n' c' Try.underlying48

  go_enter Try.func116, Try.ntmps116
  go_wp2
  go_ret
  exact ⟨rfl, rfl⟩

set_option maxHeartbeats 1000000 in
set_option maxRecDepth 100000 in
theorem clone_some_item (base : Nat) (ad : Addr) (n c : Nat) (xs : List Value) (w : World) (hbase : base ≤ w.heap.size) (hr : Rd w (some ad) n 4 xs) (hsz : n * 56 ≤ 140737488355328) :
    Calls Try.prog 116 #[.slice (some ad) n c] w fun e w' => ∃ v', e = .returned v' ∧ w'.ownsRow base 50 4 v' n xs ∧ Below w.heap.size w w' ∧ (∀ g, v'.ownBlock = some g → w.heap.size ≤ g) := by
  have q22 : ∀ (w : World) (a : Option Addr) (n c n' c' : Nat), (binOp .eql 48 (.slice a n c) (.slice none n' c')).run Try.prog w = .ok (.bool a.isNone) w := fun w a n c n' c' => Lib.run_eql_slice_nil w _ _ a n c n' c' Try.underlying48
  obtain ⟨i0, hi0, hz0, hz1, hz2⟩ := info_parts info_item
  have hxl := hr.1
  have H2 := Lib.hid hr.2.1
  have hb1 : Blk (w.alloc (.cells #[] 50)) w.heap.size 50 #[] (0, 0) := Blk.new w _ _ _
  have HX := Lib.hid hxl
  have HC : Hid (∀ j u, xs[j]? = some u → (w.alloc (.cells #[] 50)).cell? (ad.add j) = some u) := by
    intro j u hu
    have hn : 0 < n := by
      have := (List.getElem?_eq_some_iff.1 hu).1
      rcases Nat.eq_zero_or_pos n with h | h
      · subst h; simp at hxl; subst hxl; simp at this
      · exact h
    obtain ⟨ad', e, hc⟩ := hr.2.2 hn
    cases e
    exact cell_keep ((Below.refl _ _).alloc (Nat.le_refl _) _) (hc j u hu)
  rcases Nat.eq_zero_or_pos n with rfl | hn
  · obtain rfl : xs = [] := List.eq_nil_of_length_eq_zero (by simpa using hxl)
    have hr := run_append_room_k (P := Try.prog) (w.alloc (.cells #[] 50)) 48 48 50 4 w.heap.size 0 0 (some ad) 0 c #[] 50 [] Try.underlying48 size_item hb1 (by simp) (by omega) (fun h => absurd h (by simp)) (fun h => by cases h) (by simp) (by simp)
    have hb2 := hb1.setRow (#[] : Array Value)
    have hown : ((w.alloc (.cells #[] 50)).setRow w.heap.size #[]).ownsRow base 50 4 (.slice (some ⟨w.heap.size, 0, none⟩) 0 0) 0 [] := own_of_blk (rest := []) hbase hb2 (by simp) (by omega) (by simp [maxLen]) (by simp)
    have hbw : Below w.heap.size w ((w.alloc (.cells #[] 50)).setRow w.heap.size #[]) := ((Below.refl _ _).alloc (Nat.le_refl _) _).trans ⟨rfl, rfl, rfl, by simp, fun j hj => setRow_other _ _ _ _ (by omega)⟩
    simp only [List.take_nil, List.drop_nil, List.append_nil, Nat.add_zero] at hr
    have HR := Lib.hid hr
    have HO := Lib.hid hown
    have HB := Lib.hid hbw
    clear hr hown hbw hb1 hb2 H2 HX HC hxl
    go_enter Try.func116, Try.ntmps116
    go_wp2_with (first
      | (at_builtin; refine Lib.wpList_append_run _ rfl (.tmp 5) (.tmp 6) _ _ rfl _ _ rfl rfl _ _ HR.out ?_))
    go_ret
    exact ⟨_, rfl, HO.out, HB.out, fun g hg => by cases hg; exact Nat.le_refl _⟩
  · go_enter Try.func116, Try.ntmps116
    go_wp2_with (first
      | (at_builtin
         refine wpList_append_grows _ rfl (.tmp 5) (.tmp 6) _ rfl 50 i0 _ 4 56 Try.underlying48 hi0 hz0 hz1 hz2 rfl (by omega) (some ⟨w.heap.size, 0, none⟩) 0 0 [] rfl (fun h => by cases h) (by simp) (fun _ _ j u h => by simp at h) ad n c xs rfl HX.out HC H2.out (by omega) (by simp only [maxLen]; omega) (by omega) ?_
         intro v1 w1 hown1 hg1
         obtain ⟨HO, HB⟩ := clone_after_item base w w1 v1 n xs hbase hown1 hg1
         clear hown1 hg1))
    go_ret
    exact ⟨_, rfl, HO.out, HB.out.1, HB.out.2⟩
end Go.Proofs.Ytoehpladbdefkaa
