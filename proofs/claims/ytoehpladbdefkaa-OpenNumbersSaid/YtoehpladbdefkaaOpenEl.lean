/- arbourlaw18.el: the element of an ask. -/
import Derived.Test.YtoehpladbdefkaaOpenItem
import Derived.Test.YtoehpladbdefkaaKeep
import Derived.Deep.RegionHeld3
import Derived.Deep.DeepCutAuto
namespace Go.Proofs.Ytoehpladbdefkaa
open Go.RowKit

/-- An ask. -/
structure As where
  kind : Int
  h : Int
  n : Int
  m : Int
  svg : Bool
def enc_as : As → List Value := fun x => [.int .i64 x.kind, .int .i64 x.h, .int .i64 x.n, .int .i64 x.m, .bool x.svg]
def val_as : As → Value := fun x => .agg #[.int .i64 x.kind, .int .i64 x.h, .int .i64 x.n, .int .i64 x.m, .bool x.svg]
theorem encOk_as : EncOk enc_as 5 := fun x => ⟨rfl, fun u hu => List.all_eq_true.1 (show (enc_as x).all (fun u => u.oneCell') = true from rfl) u hu⟩
def elI (x : As) : It := ⟨x.h, if x.svg then 2 else 1, nameAt x.n, none, 0, 0⟩

set_option maxHeartbeats 2000000 in
set_option maxRecDepth 100000 in
theorem el_keep (w : World) (x : As) :
    Calls Try.prog 29 #[val_as x] w fun e w' => e = .returned (val_item (elI x)) ∧ Below w.heap.size w w' := by
  have hb0 : Below w.heap.size w (w.alloc (.cells (enc_as x).toArray 53)) := (Below.refl _ _).alloc (Nat.le_refl _) _
  have hb1 : Below w.heap.size w ((w.alloc (.cells (enc_as x).toArray 53)).alloc (.cells (enc_item zero_of_item).toArray 50)) := hb0.alloc (by simp) _
  have hA : Blk ((w.alloc (.cells (enc_as x).toArray 53)).alloc (.cells (enc_item zero_of_item).toArray 50)) w.heap.size 53 (enc_as x).toArray (0, 0) := (Blk.new w _ _ _).alloc _
  have hZ : Blk ((w.alloc (.cells (enc_as x).toArray 53)).alloc (.cells (enc_item zero_of_item).toArray 50)) (w.heap.size + 1) 50 (enc_item zero_of_item).toArray (0, 0) := by
    have := Blk.new (w.alloc (.cells (enc_as x).toArray 53)) 50 (enc_item zero_of_item).toArray (0, 0)
    simpa using this
  obtain ⟨w1, hw1⟩ : ∃ w1, w1 = (w.alloc (.cells (enc_as x).toArray 53)).alloc (.cells (enc_item zero_of_item).toArray 50) := ⟨_, rfl⟩
  rw [← hw1] at hb1 hA hZ
  have a1 : w1.cell? ⟨w.heap.size, 1, none⟩ = some (.int .i64 x.h) := hA.cell 1
  have a2 : w1.cell? ⟨w.heap.size, 2, none⟩ = some (.int .i64 x.n) := hA.cell 2
  have a4 : w1.cell? ⟨w.heap.size, 4, none⟩ = some (.bool x.svg) := hA.cell 4
  have hne : (fun k => k = w.heap.size + 1) w.heap.size → False := fun h => by simp at h
  have keepS : ∀ W, But (fun k => k = w.heap.size + 1) w1 W → (W.cell? ⟨w.heap.size, 1, none⟩ = some (.int .i64 x.h) ∧ W.cell? ⟨w.heap.size, 2, none⟩ = some (.int .i64 x.n) ∧ But (fun k => k = w.heap.size + 1) w1 W) := fun W hW =>
    ⟨(hA.but hW hne).cell 1, (hA.but hW hne).cell 2, hW⟩
  have KS := Lib.hid keepS
  have HZ := Lib.hid hZ
  have HB1 := Lib.hid hb1
  have hB0 : Hid (But (fun k => k = w.heap.size + 1) w1 w1.drew) := (But.refl _ _).drew
  clear hb0 hb1 hA hZ keepS hne
  unfold val_as
  go_enter Try.func29, Try.ntmps29
  go_upto_region 1 with fail
  rw [show (w.alloc (.cells #[.int .i64 x.kind, .int .i64 x.h, .int .i64 x.n, .int .i64 x.m, .bool x.svg] 53)).alloc (.cells #[.int .i64 0, .int .i64 0, .string ⟨#[]⟩, .slice none 0 0] 50) = w1 from hw1.symm]
  clear hw1
  cases hs : x.svg
  all_goals
    rw [hs] at a4
    go_wp2_with fail
    go_region_held3 (fun W => W.cell? ⟨w.heap.size, 1, none⟩ = some (.int .i64 x.h) ∧ W.cell? ⟨w.heap.size, 2, none⟩ = some (.int .i64 x.n) ∧ But (fun k => k = w.heap.size + 1) w1 W)
      (first | exact KS.out _ hB0 | exact KS.out _ hB2 | (refine KS.out _ ?_; exact hB2.trans (set4_but _ _ _ _ _ _) (fun k hk => .inl hk)))
      ((go_at_call 16
        refine (names_keep _ _).mono ?_
        rintro e w2 ⟨rfl, b2⟩
        have hB2 : But (fun k => k = w.heap.size + 1) w1 w2 := hB0.trans (S1 := fun _ => False) (But.of_below b2) (fun _ h => h.elim)
        obtain ⟨hzc, hzf⟩ := var_item (x := zero_of_item) ((HZ.out.drewN 1).keep b2)
        have z0 := hzc 0 _ rfl
        have z1 := hzc 1 _ rfl
        have z2 := hzc 2 _ rfl
        have z3 := hzc 3 _ rfl))
    go_wp2_with fail
    refine bodyPost_ret (v := val_item (elI x)) (by simp [results, Try.results29, go_sem, z0, z1, z2, z3, val_item, elI, hs]) rfl ⟨rfl, ?_⟩
    exact HB1.out.trans ((hB2.trans (S1 := fun k => k = w.heap.size + 1) (set4_but _ _ _ _ _ _) (fun k hk => .inl hk)).below (fun k hk => by omega) HB1.out.size)
end Go.Proofs.Ytoehpladbdefkaa
