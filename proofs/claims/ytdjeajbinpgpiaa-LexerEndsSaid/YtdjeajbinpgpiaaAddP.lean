/- attrs.Add of the program; a row of attributes, read. -/
import Derived.Test.YtdjeajbinpgpiaaAttrs3b
import Derived.Test.YtdjeajbinpgpiaaTk0
import Derived.Test.YtdjeajbinpgpiaaBase
namespace Go.Proofs.Ytdjeajbinpgpiaa
open Go.RowKit

set_option maxHeartbeats 2000000 in
set_option maxRecDepth 100000 in
theorem add_at (w : World) (A : Option Addr) (n c : Nat) (l : List At) (x : At) (h : RdA w A n l) (hsz : n + 1 ≤ 4398046511104) (hc0 : A = none → c = 0) :
    Calls Try.prog 68 #[.slice A n c, val_at x] w fun e w' => ∃ v', e = .returned v' ∧ RowA w' w.heap.size v' (addA l x) ∧ Below w.heap.size w w' := by
  obtain ⟨i0, hi0, hz0, hz1, hz2⟩ := info_parts info_at
  have hb0 : Below w.heap.size w (w.alloc (.cells (enc_at x).toArray 82)) := (Below.refl _ _).alloc (Nat.le_refl _) _
  have hx : Blk (w.alloc (.cells (enc_at x).toArray 82)) w.heap.size 82 (enc_at x).toArray (0, 0) := Blk.new w _ _ _
  have H := Lib.hid h
  have HC := Lib.hid (clone_at (w.alloc (.cells (enc_at x).toArray 82)) A n c l (h.keep hb0) (by omega) hc0)
  have HX := Lib.hid hx
  have HL := Lib.hid h.1
  have HB0 := Lib.hid hb0
  have HSZ := Lib.hid hsz
  clear h hx hb0 hc0
  unfold val_at
  obtain ⟨k, hk⟩ : ∃ k, findA l x.name = k := ⟨_, rfl⟩
  have HK := Lib.hid hk
  have hf := findA_neg l x.name
  rw [hk] at hf
  have hadd : Hid (addA l x = if l.any (nameP x.name) = true then l else l ++ [x]) := rfl
  clear hk
  cases hq : l.any (nameP x.name)
  all_goals
    rw [hq] at hf
    simp only [Bool.not_false, Bool.not_true] at hf
    have HQ := Lib.hid hq
    clear hq
    go_enter Try.func68, Try.ntmps68
    go_wp2_with fail
    refine HC.out.mono ?_
    rintro e w1 ⟨v1, rfl, hrow1, b1⟩
    obtain ⟨A1, c1, hv1, hr1⟩ := hrow1.read
    have hx1 := HX.out.keep b1
    obtain ⟨x0, x1⟩ := var_at hx1
    have hfi := find_at w1 A n c l x.name (H.out.keep (below_then HB0.out HB0.out.size b1)) (by have := HSZ.out; omega)
    rw [HK.out] at hfi
    have HF := Lib.hid hfi
    have HR1 := Lib.hid (hrow1.le HB0.out.size)
    have HX1 := Lib.hid hx1
    have HB1 := Lib.hid (below_then HB0.out HB0.out.size b1)
    subst hv1
    clear hrow1 hr1 hx1 hfi b1
    go_wp2_with fail
    refine HF.out.mono ?_
    rintro e w2 ⟨rfl, b2⟩
    have HB2 := Lib.hid (below_then HB1.out HB1.out.size b2)
    have HR2 := Lib.hid (HR1.out.keep b2)
    have hx2 := HX1.out.keep b2
    obtain ⟨y0, y1⟩ := var_at hx2
    have hbb : Below w2.heap.size w2 (w2.alloc (.cells (enc_at x).toArray 82)) := (Below.refl _ _).alloc (Nat.le_refl _) _
    have HR4 := Lib.hid (HR2.out.keep hbb)
    have HRD := Lib.hid (rd_one_at (Blk.new w2 82 (enc_at x).toArray (0, 0)))
    have HB4 := Lib.hid (below_then HB2.out HB2.out.size hbb)
    clear b2 hx2 hbb
  · go_wp2_with (first
      | (at_builtin
         refine append_made w _ rfl (.tmp 13) (.tmp 15) _ rfl 82 i0 _ 2 32 Try.underlying25 hi0 hz0 hz1 hz2 rfl (by omega) _ _ _ rfl HR4.out (some ⟨w2.heap.size, 0, none⟩) 1 1 _ rfl HRD.out (by simp only [maxLen]; have := HSZ.out; have := HL.out; omega) (by have := HSZ.out; have := HL.out; omega) HB4.out ?_
         intro v2 w3 hown2 hb3 hg2
         have HO3 := Lib.hid hown2
         have HB3 := Lib.hid hb3
         clear hown2 hb3 hg2))
    go_ret
    refine ⟨_, rfl, ?_, HB3.out⟩
    have ho := HO3.out
    rw [hadd.out, if_neg (by rw [HQ.out]; decide)]
    unfold RowA
    rw [List.length_append, List.flatMap_append]
    simpa using ho
  · go_wp2_with fail
    go_ret
    refine ⟨_, rfl, ?_, HB2.out⟩
    rw [hadd.out, if_pos HQ.out]
    exact HR2.out
end Go.Proofs.Ytdjeajbinpgpiaa
