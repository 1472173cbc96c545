/- Lists of attributes: More, Unique of package attrs; Alike of both; texts cut short: each with what it answers. -/
import Derived.Test.YtojpedgfllgbcaaDoorAttrs3b
import Derived.Test.YtojpedgfllgbcaaDoorBase
namespace Go.Proofs.YtojpedgfllgbcaaDoor
open Go.RowKit

set_option maxHeartbeats 1000000 in
set_option maxRecDepth 100000 in
theorem more_at (w : World) (A A2 : Option Addr) (n c n2 c2 : Nat) (l m : List At) (h : RdA w A n l) (h2 : RdA w A2 n2 m) (hsz : n + n2 + 1 ≤ 4398046511104) (hc0 : A = none → c = 0) :
    Calls Tryd.prog 91 #[.slice A n c, .slice A2 n2 c2] w fun e w' => ∃ v', e = .returned v' ∧ RowA w' w.heap.size v' (moreA l m) ∧ Below w.heap.size w w' := by
  obtain ⟨i0, hi0, hz0, hz1, hz2⟩ := info_parts info_at
  have HC := Lib.hid (clone_at w A n c l h (by omega) hc0)
  have HL := Lib.hid h.1
  have H2 := Lib.hid h2
  have HL2 := Lib.hid h2.1
  clear h h2 hc0
  go_enter Tryd.func91, Tryd.ntmps91
  go_wp2_with fail
  refine HC.out.mono ?_
  rintro e w1 ⟨v1, rfl, hrow1, b1⟩
  have HO := Lib.hid hrow1
  have HB := Lib.hid b1
  clear hrow1 b1
  go_wp2_with fail
  go_loopw [12, 5] (fun i v wr => ∃ j : Nat, j ≤ n2 ∧ i = .int .i64 j ∧ RowA wr w.heap.size v (moreA l (m.take j)) ∧ Below w.heap.size w wr) (fun i _ _ => n2 - (intOf i).toNat)
  case atStart => exact ⟨0, Nat.zero_le _, rfl, by simpa [moreA] using HO.out, HB.out⟩
  case round =>
    obtain ⟨j, hj, rfl, hr, hb⟩ := hrel
    have HRow := Lib.hid hr
    have HBr := Lib.hid hb
    by_cases hlt : j < n2
    · obtain ⟨x, hx⟩ : ∃ x, m[j]? = some x := ⟨_, List.getElem?_eq_getElem (by have := HL2.out; omega)⟩
      obtain ⟨a2, rfl, k1, k2⟩ := rdA_at (H2.out.keep hb) hx
      have s1 : IntKind.i64.wrap ((j : Int) + 1) = (j : Int) + 1 := IntWalk.i64_in _ (by omega)
      have d0 : decide ((j : Int) < (n2 : Int)) = true := decide_eq_true (by omega)
      have hml := moreA_len l (m.take j)
      have hmt : (m.take j).length ≤ j := List.length_take_le _ _
      have hml2 : (moreA l (m.take j)).length + 1 ≤ 4398046511104 := by have HLL := HL.out; omega
      have HMT := Lib.hid (moreA_take l m hx)
      clear hx hml hmt
      generalize hcur : moreA l (m.take j) = cur at *
      clear hcur
      have hba : Below wr.heap.size wr (wr.alloc (.cells (enc_at x).toArray 40)) := (Below.refl _ _).alloc (Nat.le_refl _) _
      have hrow2 := hr.keep hba
      obtain ⟨A3, c3, hv3, hr3⟩ := hrow2.read
      have hX : Blk (wr.alloc (.cells (enc_at x).toArray 40)) wr.heap.size 40 (enc_at x).toArray (0, 0) := Blk.new wr _ _ _
      obtain ⟨kf, hkf⟩ : ∃ k, findA cur x.name = k := ⟨_, rfl⟩
      have hff := findA_neg cur x.name
      rw [hkf] at hff
      have hfi := find_at _ A3 _ c3 _ x.name hr3 (by omega)
      rw [hkf] at hfi
      have HF := Lib.hid hfi
      have HBA := Lib.hid (below_then HBr.out HBr.out.size hba)
      have HR2 := Lib.hid hrow2
      have HX := Lib.hid hX
      have hadd : Hid (addA cur x = if cur.any (nameP x.name) = true then cur else cur ++ [x]) := rfl
      subst hv3
      clear hr hb hr3 hrow2 hX hkf hfi hba
      cases hq : cur.any (nameP x.name)
      all_goals
        rw [hq] at hff
        simp only [Bool.not_false, Bool.not_true] at hff
        have HQ := Lib.hid hq
        clear hq
        go_wp2_with fail
        refine HF.out.mono ?_
        rintro e w2 ⟨rfl, b2⟩
        have HB2 := Lib.hid (below_then HBA.out HBA.out.size b2)
        have HR3 := Lib.hid (HR2.out.keep b2)
        have hx2 := HX.out.keep b2
        obtain ⟨x0, x1⟩ := var_at hx2
        have hbb : Below w2.heap.size w2 (w2.alloc (.cells (enc_at x).toArray 40)) := (Below.refl _ _).alloc (Nat.le_refl _) _
        have HR4 := Lib.hid (HR3.out.keep hbb)
        have HRD := Lib.hid (rd_one_at (Blk.new w2 40 (enc_at x).toArray (0, 0)))
        have HB4 := Lib.hid (below_then HB2.out HB2.out.size hbb)
        clear b2 hx2 hbb
      · go_wp2_with (first
          | (at_builtin
             refine append_made w _ rfl (.tmp 21) (.tmp 23) _ rfl 40 i0 _ 2 32 Tryd.underlying22 hi0 hz0 hz1 hz2 rfl (by omega) _ _ _ rfl HR4.out (some ⟨w2.heap.size, 0, none⟩) 1 1 _ rfl HRD.out (by simp only [maxLen]; omega) (by omega) HB4.out ?_
             intro v2 w3 hown2 hb3 hg2
             have HO3 := Lib.hid hown2
             have HB3 := Lib.hid hb3
             clear hown2 hb3 hg2))
        refine ⟨⟨j + 1, by omega, by go_num, ?_, HB3.out⟩, by simp [intOf]; omega⟩
        rw [HMT.out, hadd.out, if_neg (by rw [HQ.out]; decide)]
        unfold RowA
        rw [List.length_append, List.flatMap_append]
        simpa using HO3.out
      · go_wp2_with fail
        refine ⟨⟨j + 1, by omega, by go_num, ?_, HB2.out⟩, by simp [intOf]; omega⟩
        rw [HMT.out, hadd.out, if_pos HQ.out]
        exact HR3.out
    · have d0 : decide ((j : Int) < (n2 : Int)) = false := decide_eq_false (by omega)
      clear hr hb
      go_wp2_with fail
      go_ret
      refine ⟨_, rfl, ?_, HBr.out⟩
      have := HRow.out
      rw [List.take_of_length_le (by have := HL2.out; omega)] at this
      exact this

theorem unique_at (w : World) (A : Option Addr) (n c : Nat) (l : List At) (h : RdA w A n l) (hsz : n + 1 ≤ 4398046511104) :
    Calls Tryd.prog 76 #[.slice A n c] w fun e w' => ∃ v', e = .returned v' ∧ RowA w' w.heap.size v' (uniqA l) ∧ Below w.heap.size w w' := by
  have H := Lib.hid (more_at w none A 0 0 n c [] l (RdA.nil w) h (by omega) (fun _ => rfl))
  clear h
  go_enter Tryd.func76, Tryd.ntmps76
  go_wp2_with fail
  refine H.out.mono ?_
  rintro e w2 ⟨v2, rfl, hrow, b2⟩
  have HR := Lib.hid hrow
  clear hrow
  go_wp2_with fail
  go_ret
  exact ⟨_, rfl, HR.out, b2⟩
end Go.Proofs.YtojpedgfllgbcaaDoor
