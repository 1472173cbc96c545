/- Lists of attributes: the reference's More and Unique. -/
import Derived.Test.YtojpedgfllgbcaaDoorAttrs3a
namespace Go.Proofs.YtojpedgfllgbcaaDoor
open Go.RowKit

set_option maxHeartbeats 1000000 in
set_option maxRecDepth 100000 in
theorem more7 (w : World) (A A2 : Option Addr) (n c n2 c2 : Nat) (l m : List At) (h : RdA w A n l) (h2 : RdA w A2 n2 m) (hsz : n + n2 + 1 ≤ 4398046511104) :
    Calls Tryd.prog 72 #[.slice A n c, .slice A2 n2 c2] w fun e w' => ∃ v', e = .returned v' ∧ RowA w' w.heap.size v' (moreA l m) ∧ Below w.heap.size w w' := by
  obtain ⟨i0, hi0, hz0, hz1, hz2⟩ := info_parts info_at
  have hb1 : Below w.heap.size w (w.alloc (.cells #[] 40)) := (Below.refl _ _).alloc (Nat.le_refl _) _
  have HM := Lib.hid (made_new w w 40 2 (Below.refl _ _))
  have HR := Lib.hid (h.keep hb1).2
  have HL := Lib.hid h.1
  have HB1 := Lib.hid hb1
  have H2 := Lib.hid h2
  have HL2 := Lib.hid h2.1
  clear h h2 hb1
  go_enter Tryd.func72, Tryd.ntmps72
  go_wp2_with (first
    | (at_builtin
       refine append_made w _ rfl (.tmp 7) (.tmp 8) _ rfl 40 i0 _ 2 32 Tryd.underlying22 hi0 hz0 hz1 hz2 rfl (by omega) _ _ _ rfl HM.out A n c _ rfl HR.out (by simp only [maxLen]; omega) (by omega) HB1.out ?_
       intro v1 w1 hown1 hb1 hg1
       rw [Nat.zero_add, List.nil_append] at hown1
       have HO := Lib.hid hown1
       have HB := Lib.hid hb1
       clear hown1 hb1 hg1))
  go_loopw [6, 5] (fun i v wr => ∃ j : Nat, j ≤ n2 ∧ i = .int .i64 j ∧ RowA wr w.heap.size v (moreA l (m.take j)) ∧ Below w.heap.size w wr) (fun i _ _ => n2 - (intOf i).toNat)
  case atStart =>
    refine ⟨0, Nat.zero_le _, rfl, ?_, HB.out⟩
    unfold RowA
    simp only [List.take_zero, moreA, List.foldl_nil]
    rw [← HL.out]
    exact HO.out
  case round =>
    obtain ⟨j, hj, rfl, hr, hb⟩ := hrel
    have HRow := Lib.hid hr
    have HBr := Lib.hid hb
    by_cases hlt : j < n2
    · obtain ⟨x, hx⟩ : ∃ x, m[j]? = some x := ⟨_, List.getElem?_eq_getElem (by have := HL2.out; omega)⟩
      obtain ⟨a2, rfl, k1, k2⟩ := rdA_at (H2.out.keep hb) hx
      obtain ⟨A3, c3, hv3, hr3⟩ := hr.read
      have s1 : IntKind.i64.wrap ((j : Int) + 1) = (j : Int) + 1 := IntWalk.i64_in _ (by omega)
      have d0 : decide ((j : Int) < (n2 : Int)) = true := decide_eq_true (by omega)
      have hml := moreA_len l (m.take j)
      have hmt : (m.take j).length ≤ j := List.length_take_le _ _
      have HLL := HL.out
      have HA := Lib.hid (add7 wr A3 _ c3 _ x hr3 (by omega))
      have HMT := Lib.hid (moreA_take l m hx)
      subst hv3
      clear hx hr3 hr hb hml hmt HLL
      go_wp2_with fail
      refine HA.out.mono ?_
      rintro e w2 ⟨v2, rfl, hrow, b2⟩
      have HR2 := Lib.hid hrow
      have HB2 := Lib.hid (below_then HBr.out HBr.out.size b2)
      clear hrow b2
      go_wp2_with fail
      refine ⟨⟨j + 1, by omega, by go_num, ?_, HB2.out⟩, by simp [intOf]; omega⟩
      rw [HMT.out]
      exact HR2.out.le HBr.out.size
    · have d0 : decide ((j : Int) < (n2 : Int)) = false := decide_eq_false (by omega)
      clear hr hb
      go_wp2_with fail
      go_ret
      refine ⟨_, rfl, ?_, HBr.out⟩
      have := HRow.out
      rw [List.take_of_length_le (by have := HL2.out; omega)] at this
      exact this

theorem unique7 (w : World) (A : Option Addr) (n c : Nat) (l : List At) (h : RdA w A n l) (hsz : n + 1 ≤ 4398046511104) :
    Calls Tryd.prog 50 #[.slice A n c] w fun e w' => ∃ v', e = .returned v' ∧ RowA w' w.heap.size v' (uniqA l) ∧ Below w.heap.size w w' := by
  have H := Lib.hid (more7 w none A 0 0 n c [] l (RdA.nil w) h (by omega))
  clear h
  go_enter Tryd.func50, Tryd.ntmps50
  go_wp2_with fail
  refine H.out.mono ?_
  rintro e w2 ⟨v2, rfl, hrow, b2⟩
  have HR := Lib.hid hrow
  clear hrow
  go_wp2_with fail
  go_ret
  exact ⟨_, rfl, HR.out, b2⟩
end Go.Proofs.YtojpedgfllgbcaaDoor
