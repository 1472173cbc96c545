/- attrs.Add's reference. -/
import Derived.Test.YtojpedgfllgbcaaDoorAttrs3b
import Derived.Test.YtojpedgfllgbcaaDoorAttrsH
namespace Go.Proofs.YtojpedgfllgbcaaDoor
open Go.RowKit

set_option maxHeartbeats 1000000 in
set_option maxRecDepth 100000 in
theorem add7 (w : World) (A : Option Addr) (n c : Nat) (l : List At) (x : At) (h : RdA w A n l) (hsz : n + 1 ≤ 4398046511104) :
    Calls Tryd.prog 89 #[.slice A n c, val_at x] w fun e w' => ∃ v', e = .returned v' ∧ RowA w' w.heap.size v' (addA l x) ∧ Below w.heap.size w w' := by
  obtain ⟨i0, hi0, hz0, hz1, hz2⟩ := info_parts info_at
  have hb0 : Below w.heap.size w (w.alloc (.cells (enc_at x).toArray 40)) := (Below.refl _ _).alloc (Nat.le_refl _) _
  have hb1 : Below w.heap.size w ((w.alloc (.cells (enc_at x).toArray 40)).alloc (.cells #[] 40)) := hb0.alloc (by simp) _
  have hm : ((w.alloc (.cells (enc_at x).toArray 40)).alloc (.cells #[] 40)).ownsRow w.heap.size 40 2 (.slice (some ⟨w.heap.size + 1, 0, none⟩) 0 0) 0 [] := by
    have := made_new w _ 40 2 hb0
    simpa using this
  have hx : Blk (w.alloc (.cells (enc_at x).toArray 40)) w.heap.size 40 (enc_at x).toArray (0, 0) := Blk.new w _ _ _
  have HX := Lib.hid hx
  have HM := Lib.hid hm
  have H := Lib.hid h
  have HR := Lib.hid (h.keep hb1).2
  have HL := Lib.hid h.1
  have HB1 := Lib.hid hb1
  clear h hm hx hb0 hb1
  unfold val_at
  obtain ⟨k, hk⟩ : ∃ k, findA l x.name = k := ⟨_, rfl⟩
  have HK := Lib.hid hk
  have hf := findA_neg l x.name
  rw [hk] at hf
  have hadd : Hid (addA l x = if l.any (nameP x.name) = true then l else l ++ [x]) := rfl
  clear hk
  cases hq : l.any (nameP x.name)
  all_goals
    rw [hq] at hf
    simp only [Bool.not_false, Bool.not_true] at hf
    have HQ := Lib.hid hq
    clear hq
    go_enter Tryd.func89, Tryd.ntmps89
    go_wp2_with (first
      | (at_builtin
         refine append_made w _ rfl (.tmp 6) (.tmp 7) _ rfl 40 i0 _ 2 32 Tryd.underlying22 hi0 hz0 hz1 hz2 rfl (by omega) _ _ _ rfl HM.out A n c _ rfl HR.out (by simp only [maxLen]; omega) (by omega) HB1.out ?_
         intro v1 w1 hown1 hb1 hg1
         rw [Nat.zero_add, List.nil_append] at hown1
         have hx1 : Blk w1 w.heap.size 40 (enc_at x).toArray (0, 0) := grown_blk (HX.out.alloc _) hg1 (by omega)
         obtain ⟨x0, x1⟩ := var_at hx1
         have HX1 := Lib.hid hx1
         have HO := Lib.hid hown1
         have HB := Lib.hid hb1
         have hi := has7 w1 A n c l x.name (H.out.keep hb1) (by omega)
         rw [HK.out] at hi
         have HI := Lib.hid hi
         clear hown1 hb1 hg1 hx1 hi))
    refine HI.out.mono ?_
    rintro e w2 ⟨rfl, rfl⟩
  · have hb2 : Below w1.heap.size w1 (w1.alloc (.cells (enc_at x).toArray 40)) := (Below.refl _ _).alloc (Nat.le_refl _) _
    have HR2 := Lib.hid (rd_one_at (Blk.new w1 40 (enc_at x).toArray (0, 0)))
    have HO2 := Lib.hid (owns_but HO.out (But.of_below hb2) (S := fun _ => False) (fun _ _ h => h))
    have HB2 := Lib.hid (below_then HB.out HB.out.size hb2)
    clear hb2
    go_wp2_with (first
      | (at_builtin
         refine append_made w _ rfl (.tmp 14) (.tmp 16) _ rfl 40 i0 _ 2 32 Tryd.underlying22 hi0 hz0 hz1 hz2 rfl (by omega) _ _ _ rfl HO2.out (some ⟨w1.heap.size, 0, none⟩) 1 1 _ rfl HR2.out (by simp only [maxLen]; omega) (by omega) HB2.out ?_
         intro v2 w2 hown2 hb3 hg2
         have HO3 := Lib.hid hown2
         have HB3 := Lib.hid hb3
         clear hown2 hb3 hg2))
    go_ret
    refine ⟨_, rfl, ?_, HB3.out⟩
    have ho := HO3.out
    rw [hadd.out, if_neg (by rw [HQ.out]; decide)]
    unfold RowA
    rw [List.length_append, List.flatMap_append, ← HL.out]
    simpa using ho
  · go_wp2_with fail
    go_ret
    refine ⟨_, rfl, ?_, HB.out⟩
    rw [hadd.out, if_pos HQ.out]
    unfold RowA
    rw [← HL.out]
    exact HO.out

end Go.Proofs.YtojpedgfllgbcaaDoor
