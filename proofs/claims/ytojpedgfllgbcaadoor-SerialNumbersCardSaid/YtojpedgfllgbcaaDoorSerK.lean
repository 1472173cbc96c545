/- serial.Text; arbourlaw23's same and known. -/
import Derived.Test.YtojpedgfllgbcaaDoorSerG
import Derived.Test.YtojpedgfllgbcaaDoorSerI
namespace Go.Proofs.YtojpedgfllgbcaaDoor
open Go.RowKit Go.BigFrame

set_option maxRecDepth 100000 in
theorem text_tree (w : World) (l : Lab) (k : Fo) (q : Parts) (h : PartsOk w l k q) (hsz : wl l + wF k ≤ 240000) (hT : Tabs w) :
    Calls Tryd.prog 23 #[valP l k.len q] w fun e w' => e = .returned (.string (S (innerF false l k))) ∧ Below w.heap.size w w' := by
  have hb0 : Below w.heap.size w (w.alloc (.cells (cellsP l k.len q).toArray 25)) := (Below.refl _ _).alloc (Nat.le_refl _) _
  have HI := Lib.hid (inner_any _ l k q false (h.keep hb0) hsz (hT.keep hb0))
  have HB := Lib.hid hb0
  clear h hT hb0
  unfold valP at *
  unfold cellsP at HI HB
  go_enter Tryd.func23, Tryd.ntmps23
  go_wp2_with (go_at_call 47; with_reducible refine HI.out.mono ?_; rintro e w1 ⟨rfl, hb1⟩)
  go_ret
  exact ⟨rfl, HB.out.trans (hb1.mono HB.out.size)⟩

set_option maxHeartbeats 4000000 in
set_option maxRecDepth 100000 in
theorem same_tree (w : World) (l : Lab) (k : Fo) (q : Parts) (h : PartsOk w l k q) (hsz : wl l + wF k ≤ 240000) (hT : Tabs w) :
    Calls Tryd.prog 21 #[valP l k.len q] w fun e w' => e = .returned (.bool true) ∧ Below w.heap.size w w' := by
  have hb0 : Below w.heap.size w (w.alloc (.cells #[.int .i64 l.kind, .int .i64 l.ns, .string l.name, .slice q.A l.attrs.length q.c, .string l.text, .slice q.K k.len q.d] 25)) := (Below.refl _ _).alloc (Nat.le_refl _) _
  have hB : Blk (w.alloc (.cells #[.int .i64 l.kind, .int .i64 l.ns, .string l.name, .slice q.A l.attrs.length q.c, .string l.text, .slice q.K k.len q.d] 25)) w.heap.size 25 #[.int .i64 l.kind, .int .i64 l.ns, .string l.name, .slice q.A l.attrs.length q.c, .string l.text, .slice q.K k.len q.d] (0, 0) := Blk.new w _ _ _
  obtain ⟨wT, hwT⟩ : ∃ wT, w.alloc (.cells #[.int .i64 l.kind, .int .i64 l.ns, .string l.name, .slice q.A l.attrs.length q.c, .string l.text, .slice q.K k.len q.d] 25) = wT := ⟨_, rfl⟩
  have HBT : Hid (Below w.heap.size w wT) := hwT ▸ hb0
  have HBB : Hid (Blk wT w.heap.size 25 #[.int .i64 l.kind, .int .i64 l.ns, .string l.name, .slice q.A l.attrs.length q.c, .string l.text, .slice q.K k.len q.d] (0, 0)) := hwT ▸ hB
  obtain ⟨E0, hE0⟩ : ∃ E, S (innerF false l k) = E := ⟨_, rfl⟩
  obtain ⟨E1, hE1⟩ : ∃ E, S (innerF true l k) = E := ⟨_, rfl⟩
  have hP : ∀ W, Below w.heap.size w W → ∀ scr, Calls Tryd.prog 47 #[valP l k.len q, .bool scr] W fun e w' => e = .returned (.string (S (innerF scr l k))) ∧ Below W.heap.size W w' := fun W hb scr => inner_any W l k q scr (h.keep hb) hsz (hT.keep hb)
  have hR : ∀ W, Below w.heap.size w W → ∀ scr, Calls Tryd.prog 46 #[valP l k.len q, .bool scr] W fun e w' => e = .returned (.string (S (innerF scr l k))) ∧ Below W.heap.size W w' := fun W hb scr => rinner_any scr _ k (Nat.lt_succ_self _) W l q (h.keep hb) hsz
  have hX : ∀ W, Below w.heap.size w W → Calls Tryd.prog 23 #[valP l k.len q] W fun e w' => e = .returned (.string (S (innerF false l k))) ∧ Below W.heap.size W w' := fun W hb => text_tree W l k q (h.keep hb) hsz (hT.keep hb)
  have hP1 := fun W hb => hP W hb true
  have hP0 := fun W hb => hP W hb false
  have hR1 := fun W hb => hR W hb true
  have hR0 := fun W hb => hR W hb false
  rw [hE0] at hP0 hR0 hX
  rw [hE1] at hP1 hR1
  unfold valP at *
  have n0 : ∀ nn : After wT, nn.W.cell? ⟨w.heap.size, 0, none⟩ = some (.int .i64 l.kind) := fun nn => (HBB.out.keep nn.below).cell 0
  have n1 : ∀ nn : After wT, nn.W.cell? ⟨w.heap.size, 1, none⟩ = some (.int .i64 l.ns) := fun nn => (HBB.out.keep nn.below).cell 1
  have n2 : ∀ nn : After wT, nn.W.cell? ⟨w.heap.size, 2, none⟩ = some (.string l.name) := fun nn => (HBB.out.keep nn.below).cell 2
  have n3 : ∀ nn : After wT, nn.W.cell? ⟨w.heap.size, 3, none⟩ = some (.slice q.A l.attrs.length q.c) := fun nn => (HBB.out.keep nn.below).cell 3
  have n4 : ∀ nn : After wT, nn.W.cell? ⟨w.heap.size, 4, none⟩ = some (.string l.text) := fun nn => (HBB.out.keep nn.below).cell 4
  have n5 : ∀ nn : After wT, nn.W.cell? ⟨w.heap.size, 5, none⟩ = some (.slice q.K k.len q.d) := fun nn => (HBB.out.keep nn.below).cell 5
  have g : ∀ nn : After wT, Below w.heap.size w nn.W := fun nn => HBT.out.trans (nn.below.mono HBT.out.size)
  have HX := Lib.hid (fun nn : After wT => hX nn.W (g nn))
  have HP1 := Lib.hid (fun nn : After wT => hP1 nn.W (g nn))
  have HP0 := Lib.hid (fun nn : After wT => hP0 nn.W (g nn))
  have HR1 := Lib.hid (fun nn : After wT => hR1 nn.W (g nn))
  have HR0 := Lib.hid (fun nn : After wT => hR0 nn.W (g nn))
  have HG := Lib.hid g
  clear hX hP1 hP0 hR1 hR0 hP hR hE0 hE1 h hT hb0 hB g
  have HWT := Lib.hid hwT
  clear hwT
  go_enter Tryd.func21, Tryd.ntmps21
  go_upto_region 1 with (fail)
  rw [HWT.out]
  refine wp_region_after (by kernel_rfl) (by kernel_rfl) ?_
  repeat (any_goals (go_big_quiet_step ((first
    | (go_at_call 23; with_reducible exact call_after (HX.out _))
    | (go_at_call 47; with_reducible exact call_after (HP1.out _))
    | (go_at_call 47; with_reducible exact call_after (HP0.out _))
    | (go_at_call 46; with_reducible exact call_after (HR1.out _))
    | (go_at_call 46; with_reducible exact call_after (HR0.out _))))))
  refine wpQuiet_nil ?_
  rintro w' ⟨nn, rfl⟩
  go_wp2_with fail
  go_ret
  exact ⟨rfl, HG.out nn⟩
end Go.Proofs.YtojpedgfllgbcaaDoor
