/- Stores to the cells of a variable of two, three cells. No program in sight. -/
import Derived.Test.YtojpedgfllgbcaaDoorBase
import Derived.Test.YtojpedgfllgbcaaDoorAttrs0
namespace Go.Proofs.YtojpedgfllgbcaaDoor
open Go.RowKit

theorem set2_but (w : World) (b : Nat) (u0 u1 : Value) : But (fun k => k = b) w ((w.setCell ⟨b, 0, none⟩ u0).setCell ⟨b, 1, none⟩ u1) :=
  ((But.refl (fun k => k = b) w).setCell _ _ (.inl rfl)).setCell _ _ (.inl rfl)
theorem set3_but (w : World) (b : Nat) (u0 u1 u2 : Value) : But (fun k => k = b) w (((w.setCell ⟨b, 0, none⟩ u0).setCell ⟨b, 1, none⟩ u1).setCell ⟨b, 2, none⟩ u2) :=
  (((But.refl (fun k => k = b) w).setCell _ _ (.inl rfl)).setCell _ _ (.inl rfl)).setCell _ _ (.inl rfl)
theorem set6_below {B b : Nat} {w w' : World} (h : Below B w w') (hb : B ≤ b) (u0 u1 u2 u3 u4 u5 : Value) :
    Below B w ((((((w'.setCell ⟨b, 0, none⟩ u0).setCell ⟨b, 1, none⟩ u1).setCell ⟨b, 2, none⟩ u2).setCell ⟨b, 3, none⟩ u3).setCell ⟨b, 4, none⟩ u4).setCell ⟨b, 5, none⟩ u5) :=
  (((((h.setCell (p := ⟨b, 0, none⟩) hb u0).setCell (p := ⟨b, 1, none⟩) hb u1).setCell (p := ⟨b, 2, none⟩) hb u2).setCell (p := ⟨b, 3, none⟩) hb u3).setCell (p := ⟨b, 4, none⟩) hb u4).setCell (p := ⟨b, 5, none⟩) hb u5
/-- Six cells written anew. -/
theorem set6_blk {b : Nat} {w : World} {t : TypeId} {v0 v1 v2 v3 v4 v5 : Value} (h : Blk w b t #[v0, v1, v2, v3, v4, v5] (0, 0)) (u0 u1 u2 u3 u4 u5 : Value) :
    Blk ((((((w.setCell ⟨b, 0, none⟩ u0).setCell ⟨b, 1, none⟩ u1).setCell ⟨b, 2, none⟩ u2).setCell ⟨b, 3, none⟩ u3).setCell ⟨b, 4, none⟩ u4).setCell ⟨b, 5, none⟩ u5) b t #[u0, u1, u2, u3, u4, u5] (0, 0) := by
  have h0 := h.set 0 u0
  have h1 := h0.set 1 u1
  have h2 := h1.set 2 u2
  have h3 := h2.set 3 u3
  have h4 := h3.set 4 u4
  have h5 := h4.set 5 u5
  exact h5
theorem set6_but (w : World) (b : Nat) (u0 u1 u2 u3 u4 u5 : Value) : But (fun k => k = b) w ((((((w.setCell ⟨b, 0, none⟩ u0).setCell ⟨b, 1, none⟩ u1).setCell ⟨b, 2, none⟩ u2).setCell ⟨b, 3, none⟩ u3).setCell ⟨b, 4, none⟩ u4).setCell ⟨b, 5, none⟩ u5) :=
  ((((((But.refl (fun k => k = b) w).setCell _ _ (.inl rfl)).setCell _ _ (.inl rfl)).setCell _ _ (.inl rfl)).setCell _ _ (.inl rfl)).setCell _ _ (.inl rfl)).setCell _ _ (.inl rfl)
theorem set_set6_but (w : World) (b r i : Nat) (u : Value) (u0 u1 u2 u3 u4 u5 : Value) : But (fun k => k = b ∨ k = r) w (((((((w.setCell ⟨b, i, none⟩ u).setCell ⟨r, 0, none⟩ u0).setCell ⟨r, 1, none⟩ u1).setCell ⟨r, 2, none⟩ u2).setCell ⟨r, 3, none⟩ u3).setCell ⟨r, 4, none⟩ u4).setCell ⟨r, 5, none⟩ u5) :=
  ((But.refl (fun k => k = b ∨ k = r) w).setCell ⟨b, i, none⟩ u (.inl (.inl rfl))).trans (set6_but _ r u0 u1 u2 u3 u4 u5) (fun _ hk => .inl (.inr hk))
theorem rdA_of_own {w : World} {base : Nat} {e : TypeId} {A : Option Addr} {n c : Nat} {l : List At} {xs : List Value} {m : Nat} (h : w.ownsRow base e 2 (.slice A n c) m xs) (hn : l.length = n) (hm : m = l.length := by rfl) (hx : xs = l.flatMap enc_at := by rfl) : RdA w A l.length l := by
  subst hm hx
  obtain ⟨A2, c2, e2, hr2⟩ := rdA_own h
  cases e2
  exact hr2
theorem made_alloc_drew (w1 : World) (o : Obj) : Below w1.heap.size w1 (w1.alloc o).drew := ((Below.refl _ _).alloc (Nat.le_refl _) o).drew
end Go.Proofs.YtojpedgfllgbcaaDoor
