/- The list of active formatting: what From tells; arbourlaw19.same of two entries that stand for one. -/
import Derived.Test.YtoehpladbdefkaaActFind
namespace Go.Proofs.Ytoehpladbdefkaa
open Go.RowKit

theorem eql_func_nil (f : Fn) (a c : Array Value) (w : World) : (binOp .eql 42 (.func f a c) .nilFunc).run Try.prog w = .ok (.bool false) w := by
  have h : (Op.equalIn Op.maxDepth 42 (.func f a c) .nilFunc).run Try.prog w = .ok false w := by
    rw [show Op.maxDepth = 9999 + 1 from rfl, Op.equalIn]
    simp only [Sem.run_bind, run_underlying Try.underlying42, Result.andThen_ok]
    rfl
  simp [binOp, Op.equal, h]
def stopZ (pf : Int → Bool) (z : Z) : Bool := mkZ z || pf z.2.h
/-- From the end on, as long as nothing stops it. -/
def fromR (st : Z → Bool) : List Z → Nat
  | [] => 0
  | z :: r => if st z = true then r.length + 1 else fromR st r
def fromZ (st : Z → Bool) (l : List Z) : Nat := fromR st l.reverse

set_option maxHeartbeats 2000000 in
set_option maxRecDepth 100000 in
theorem same19 (w : World) (x y : En) (F G : Nat → Prop) (e0 : E0) (hx : EnRep w F x e0) (hy : EnRep w G y e0) :
    Calls Try.prog 25 #[val_entry x, val_entry y] w fun e w' => e = .returned (.bool true) ∧ Below w.heap.size w w' := by
  have hb0 : Below w.heap.size w (w.alloc (.cells (enc_entry x).toArray 33)) := (Below.refl _ _).alloc (Nat.le_refl _) _
  have hb1 : Below w.heap.size w ((w.alloc (.cells (enc_entry x).toArray 33)).alloc (.cells (enc_entry y).toArray 33)) := hb0.alloc (by simp) _
  have hs := attrs_keep _ x.a y.a x.n y.n x.c y.c e0.attrs e0.attrs (hx.attrs.keep hb1) (hy.attrs.keep hb1) (by have := hx.few; omega)
  rw [decide_eq_true rfl] at hs
  have HS := Lib.hid hs
  have HB := Lib.hid hb1
  have e1 : y.marker = x.marker := by rw [hx.marker, hy.marker]
  have e2 : y.h = x.h := by rw [hx.h, hy.h]
  have e3 : y.name = x.name := by rw [hx.name, hy.name]
  unfold enc_entry at HS HB
  unfold val_entry
  rw [e1, e2, e3] at HS HB ⊢
  have q1 : (x.marker == x.marker) = true := beq_self_eq_true _
  have q2 : (x.h == x.h) = true := beq_self_eq_true _
  have q3 : (x.name.toList == x.name.toList) = true := beq_self_eq_true _
  clear hx hy hb0 hb1 hs e1 e2 e3
  go_enter Try.func25, Try.ntmps25
  go_wp2_with fail
  refine HS.out.mono ?_
  rintro e w2 ⟨rfl, b2⟩
  go_wp2_with fail
  go_ret
  exact ⟨rfl, below_both HB.out b2⟩
end Go.Proofs.Ytoehpladbdefkaa
