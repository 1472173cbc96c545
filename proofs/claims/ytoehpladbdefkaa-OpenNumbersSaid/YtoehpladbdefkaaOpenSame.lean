/- arbourlaw18.same of an element and itself; arbourlaw18.is. -/
import Derived.Test.YtoehpladbdefkaaOpenClear
import Derived.Test.YtoehpladbdefkaaAttrs
import Derived.Deep.QuietTactic
import Derived.BigQuiet
namespace Go.Proofs.Ytoehpladbdefkaa
open Go.RowKit

/-- An element without attributes. -/
def bareI (x : It) : Prop := x.a = none ∧ x.n = 0

set_option maxHeartbeats 2000000 in
set_option maxRecDepth 100000 in
theorem same_item (w : World) (x : It) (hx : bareI x) :
    Calls Try.prog 47 #[val_item x, val_item x] w fun e w' => e = .returned (.bool true) ∧ Below w.heap.size w w' := by
  obtain ⟨xh, xns, xname, xa, xn, xc⟩ := x
  obtain ⟨rfl, rfl⟩ := hx
  have hb0 : Below w.heap.size w (w.alloc (.cells #[.int .i64 xh, .int .i64 xns, .string xname, .slice none 0 xc] 50)) := (Below.refl _ _).alloc (Nat.le_refl _) _
  have hb1 : Below w.heap.size w ((w.alloc (.cells #[.int .i64 xh, .int .i64 xns, .string xname, .slice none 0 xc] 50)).alloc (.cells #[.int .i64 xh, .int .i64 xns, .string xname, .slice none 0 xc] 50)) := hb0.alloc (by simp) _
  have HS := Lib.hid (attrs_keep _ none none 0 0 xc xc [] [] (RdA.nil' _) (RdA.nil' ((w.alloc (.cells #[.int .i64 xh, .int .i64 xns, .string xname, .slice none 0 xc] 50)).alloc (.cells #[.int .i64 xh, .int .i64 xns, .string xname, .slice none 0 xc] 50))) (by omega))
  have HB := Lib.hid hb1
  have e1 : (xh == xh) = true := beq_self_eq_true _
  have e2 : (xns == xns) = true := beq_self_eq_true _
  have e3 : (xname.toList == xname.toList) = true := beq_self_eq_true _
  clear hb0 hb1
  unfold val_item
  go_enter Try.func47, Try.ntmps47
  go_wp2_with fail
  refine HS.out.mono ?_
  rintro e w2 ⟨rfl, b2⟩
  go_wp2_with fail
  go_ret
  exact ⟨rfl, below_both HB.out b2⟩

set_option maxHeartbeats 2000000 in
set_option maxRecDepth 100000 in
theorem is18 (w : World) (x : It) (A : Option Addr) (c : Nat) (names : List ByteArray) (hr : Rd w A names.length 1 (strs names)) (hb : names.length ≤ 9223372036854775807) :
    Calls Try.prog 51 #[val_item x, .slice A names.length c] w fun e w' => e = .returned (.bool (isN names x)) ∧ Below w.heap.size w w' := by
  have hb0 : Below w.heap.size w (w.alloc (.cells (enc_item x).toArray 50)) := (Below.refl _ _).alloc (Nat.le_refl _) _
  have HX := Lib.hid (Blk.new w 50 (enc_item x).toArray (0, 0))
  have HR := Lib.hid (hr.keep hb0)
  have HB0 := Lib.hid hb0
  obtain ⟨w0, hw0⟩ : ∃ w0, w0 = w.alloc (.cells (enc_item x).toArray 50) := ⟨_, rfl⟩
  rw [← hw0] at HX HR HB0
  clear hr hb0
  go_enter Try.func51, Try.ntmps51
  unfold val_item
  go_wp2_with fail
  rw [show w.alloc (.cells #[.int .i64 x.h, .int .i64 x.ns, .string x.name, .slice x.a x.n x.c] 50) = w0 from hw0.symm]
  clear hw0
  go_loopw [5] (fun i wr => ∃ j : Nat, j ≤ names.length ∧ i = .int .i64 j ∧ Below w0.heap.size w0 wr ∧ (x.ns == 1 && inB x.name (names.take j)) = false) (fun i _ => names.length - (intOf i).toNat)
  case atStart => exact ⟨0, Nat.zero_le _, rfl, Below.refl _ _, by simp [inB]⟩
  case round =>
    obtain ⟨j, hj, rfl, hbr, ht⟩ := hrel
    have HT := Lib.hid ht
    have HB := Lib.hid hbr
    clear ht hbr
    by_cases hlt : j < names.length
    · obtain ⟨y, hy⟩ : ∃ y, names[j]? = some y := ⟨_, List.getElem?_eq_getElem hlt⟩
      obtain ⟨a1, rfl, hc1⟩ := (HR.out.keep HB.out).2.2 (by omega)
      have k1 := strs_at hc1 hy
      obtain ⟨hvc, _⟩ := var_item (x := x) (HX.out.keep HB.out)
      have c1 := hvc 1 _ rfl; have c2 := hvc 2 _ rfl
      have s1 : IntKind.i64.wrap ((j : Int) + 1) = (j : Int) + 1 := IntWalk.i64_in _ (by omega)
      have d0 : decide ((j : Int) < (names.length : Int)) = true := decide_eq_true (by omega)
      have HY := Lib.hid hy
      clear hvc hc1 hy
      cases hn : (x.ns == 1)
      · go_wp2_with fail
        go_quiet (fail)
        go_wp2_with fail
        exact ⟨⟨j + 1, by omega, by go_num, below_drewN HB.out _, Bool.false_and _⟩, by simp [intOf]; omega⟩
      · have ht := HT.out
        rw [hn, Bool.true_and] at ht
        have hq2 := inB_take ht HY.out
        have HN := Lib.hid hn
        have HQ2 := Lib.hid hq2
        clear ht hq2
        cases hq : (x.name.toList == y.toList)
        · have HQ := Lib.hid hq
          go_wp2_with fail
          go_quiet (fail)
          go_wp2_with fail
          exact ⟨⟨j + 1, by omega, by go_num, below_drewN HB.out _, by rw [Bool.true_and, HQ2.out, HQ.out]⟩, by simp [intOf]; omega⟩
        · have HQ := Lib.hid hq
          go_wp2_with fail
          go_quiet (fail)
          go_wp2_with fail
          go_ret
          refine ⟨?_, below_drewN (below_then HB0.out HB0.out.size HB.out) _⟩
          have : isN names x = true := by unfold isN; rw [HN.out, inB_hit (HQ2.out.trans HQ.out)]; rfl
          exact congrArg (fun b => Ending.returned (.bool b)) this.symm
    · have d0 : decide ((j : Int) < (names.length : Int)) = false := decide_eq_false (by omega)
      have ht := HT.out
      rw [List.take_of_length_le (by omega)] at ht
      have HE := Lib.hid ht
      clear ht
      go_wp2_with fail
      go_ret
      exact ⟨congrArg (fun b => Ending.returned (.bool b)) HE.out.symm, below_then HB0.out HB0.out.size HB.out⟩
end Go.Proofs.Ytoehpladbdefkaa
