/- Open elements (item): is, Scope, Place. -/
import Derived.Test.YtoehpladbdefkaaLstItem
import Derived.Test.YtoehpladbdefkaaNames
import Derived.Test.YtoehpladbdefkaaScopeL
namespace Go.Proofs.Ytoehpladbdefkaa
open Go.RowKit

set_option maxHeartbeats 1000000 in
set_option maxRecDepth 100000 in
theorem is_name_item (w : World) (x : It) (A : Option Addr) (c : Nat) (names : List ByteArray) (hr : Rd w A names.length 1 (strs names)) (hb : names.length ≤ 9223372036854775807) :
    Calls Try.prog 77 #[val_item x, .slice A names.length c] w fun e w' => e = .returned (.bool (x.ns == 1 && inB x.name names)) ∧ Below w.heap.size w w' := by
  have hb0 : Below w.heap.size w (w.alloc (.cells (enc_item x).toArray 50)) := (Below.refl _ _).alloc (Nat.le_refl _) _
  have HC := Lib.hid (contains_names _ A c names x.name (hr.keep hb0) hb)
  obtain ⟨hvc, _⟩ := var_item (x := x) (Blk.new w 50 (enc_item x).toArray (0, 0))
  have c0 := hvc 0 _ rfl; have c1 := hvc 1 _ rfl; have c2 := hvc 2 _ rfl; have c3 := hvc 3 _ rfl
  have HB := Lib.hid hb0
  clear hvc hr hb0
  unfold enc_item at c0 c1 c2 c3
  unfold val_item
  cases hn : (x.ns == 1)
  · go_enter Try.func77, Try.ntmps77
    go_wp2_with fail
    go_ret
    exact ⟨rfl, HB.out⟩
  · go_enter Try.func77, Try.ntmps77
    go_wp2_with fail
    refine HC.out.mono ?_
    rintro e w' ⟨rfl, rfl⟩
    go_wp2_with fail
    go_ret
    exact ⟨rfl, HB.out⟩

def key_item (x : It) : Int × ByteArray := (x.ns, x.name)

set_option maxHeartbeats 2000000 in
set_option maxRecDepth 100000 in
theorem scope_item (B : Nat) (w : World) (q : Nat) (l : List It) (kind : Int) (A : Option Addr) (c : Nat) (names : List ByteArray) (h : LB_item B w q l) (hr : Rd w A names.length 1 (strs names)) (hb : names.length ≤ 9223372036854775807) :
    Calls Try.prog 38 #[.pointer (some ⟨q, 0, none⟩), .int .i64 kind, .slice A names.length c] w fun e w' => e = .returned (.bool (scopeB (l.map key_item) kind names)) ∧ Below w.heap.size w w' := by
  have hlen := h.len
  have HL := Lib.hid h
  have HR := Lib.hid hr
  clear h hr
  by_cases hk : kind < 1 ∨ kind > 4
  · have e : scopeB (l.map key_item) kind names = false := by unfold scopeB; rw [if_pos hk]
    rw [e]
    by_cases h1 : kind < 1
    · have d1 : decide (kind < 1) = true := decide_eq_true h1
      go_enter Try.func38, Try.ntmps38
      go_wp2_with fail
      go_ret
      exact ⟨rfl, Below.refl _ _⟩
    · have d1 : decide (kind < 1) = false := decide_eq_false h1
      have d2 : decide (kind > 4) = true := decide_eq_true (by omega)
      go_enter Try.func38, Try.ntmps38
      go_wp2_with fail
      go_ret
      exact ⟨rfl, Below.refl _ _⟩
  · have d1 : decide (kind < 1) = false := decide_eq_false (by omega)
    have d2 : decide (kind > 4) = false := decide_eq_false (by omega)
    have hsc : Hid (scopeB (l.map key_item) kind names = scanB kind names ((l.map key_item).reverse)) := by show _ = _; unfold scopeB; rw [if_neg hk]
    have s1 : IntKind.i64.wrap ((l.length : Int) - 1) = (l.length : Int) - 1 := IntWalk.i64_in _ (by omega)
    go_enter Try.func38, Try.ntmps38
    go_wp2_with fail
    refine (lenL_item B w q l HL.out).mono ?_
    rintro e w1 ⟨rfl, rfl⟩
    go_wp2_with fail
    go_loopw [7] (fun i wr => ∃ j : Nat, j ≤ l.length ∧ i = .int .i64 ((j : Int) - 1) ∧ Below w.heap.size w wr ∧ scanB kind names ((l.map key_item).reverse) = scanB kind names (((l.take j).map key_item).reverse)) (fun i _ => (intOf i + 1).toNat)
    case atStart => exact ⟨l.length, Nat.le_refl _, rfl, Below.refl _ _, by rw [List.take_of_length_le (Nat.le_refl _)]⟩
    case round =>
      obtain ⟨j, hj, rfl, hbr, ht⟩ := hrel
      have HT := Lib.hid ht
      have HB := Lib.hid hbr
      clear ht hbr
      cases j with
      | zero =>
        go_wp2_with fail
        go_ret
        have e2 : scopeB (l.map key_item) kind names = false := by rw [hsc, HT.out]; rfl
        exact ⟨congrArg (fun b => Ending.returned (.bool b)) e2.symm, HB.out⟩
      | succ m =>
        have e1 : (((m + 1 : Nat) : Int) - 1) = (m : Int) := by omega
        rw [e1]
        have hm : m < l.length := by omega
        obtain ⟨y, hy⟩ : ∃ y, l[m]? = some y := ⟨_, List.getElem?_eq_getElem hm⟩
        have hstep : scanB kind names (((l.take (m + 1)).map key_item).reverse) = scanB kind names (key_item y :: ((l.take m).map key_item).reverse) := by
          rw [List.take_add_one, hy]; simp
        have s2 : IntKind.i64.wrap ((m : Int) - 1) = (m : Int) - 1 := IntWalk.i64_in _ (by omega)
        have HST := Lib.hid (HT.out.trans hstep)
        have hA := atL_item B wr q l (m : Int) (HL.out.keep HB.out)
        rw [getL_nat, hy] at hA
        simp only [Option.elim, Option.isSome_some] at hA
        have HA := Lib.hid hA
        clear hstep hA hy
        go_wp2_with fail
        refine HA.out.mono ?_
        rintro e w2 ⟨rfl, b2⟩
        have b02 := below_both HB.out b2
        have hb3 : Below w2.heap.size w2 (w2.alloc (.cells (enc_item y).toArray 50)) := (Below.refl _ _).alloc (Nat.le_refl _) _
        have b03 := below_both b02 hb3
        obtain ⟨hvc, _⟩ := var_item (x := y) (Blk.new w2 50 (enc_item y).toArray (0, 0))
        have HVC := Lib.hid hvc
        have c0 := hvc 0 _ rfl; have c1 := hvc 1 _ rfl; have c2 := hvc 2 _ rfl; have c3 := hvc 3 _ rfl
        have HI := Lib.hid (is_name_item _ y A c names (HR.out.keep b03) hb)
        have HB3 := Lib.hid b03
        clear hvc b2 b02 hb3 b03
        unfold enc_item at c0 c1 c2 c3
        simp only [val_item]
        go_wp2_with fail
        refine HI.out.mono ?_
        rintro e w4 ⟨rfl, b4⟩
        have k0 := cell_keep b4 (HVC.out 0 _ rfl); have k1 := cell_keep b4 (HVC.out 1 _ rfl); have k2 := cell_keep b4 (HVC.out 2 _ rfl); have k3 := cell_keep b4 (HVC.out 3 _ rfl)
        have HB4 := Lib.hid (below_both HB3.out b4)
        clear b4
        cases hq : (y.ns == 1 && inB y.name names)
        · have HQ := Lib.hid hq
          go_wp2_with fail
          refine (open_bounds w4 kind y.ns y.name).mono ?_
          rintro e w5 ⟨rfl, rfl⟩
          cases hq2 : openB kind y.ns y.name
          · have HQ2 := Lib.hid hq2
            go_wp2_with fail
            exact ⟨⟨m, by omega, rfl, HB4.out, by rw [HST.out]; exact scanB_on HQ.out HQ2.out⟩, by simp [intOf]⟩
          · have HQ2 := Lib.hid hq2
            go_wp2_with fail
            go_ret
            have e2 : scopeB (l.map key_item) kind names = false := by rw [hsc, HST.out]; exact scanB_end HQ.out HQ2.out
            exact ⟨congrArg (fun b => Ending.returned (.bool b)) e2.symm, HB4.out⟩
        · have HQ := Lib.hid hq
          go_wp2_with fail
          go_ret
          have e2 : scopeB (l.map key_item) kind names = true := by rw [hsc, HST.out]; exact scanB_hit HQ.out
          exact ⟨congrArg (fun b => Ending.returned (.bool b)) e2.symm, HB4.out⟩
end Go.Proofs.Ytoehpladbdefkaa
