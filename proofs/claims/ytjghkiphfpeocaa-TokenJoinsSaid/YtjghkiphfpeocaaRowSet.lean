/- A row of attributes, read, and held apart from other blocks. -/
import Derived.Test.YtjghkiphfpeocaaAttrs3b
namespace Go.Proofs.Ytjghkiphfpeocaa
open Go.RowKit

theorem RowA.nil (w : World) (base : Nat) : RowA w base (.slice none 0 0) [] := ⟨by simp, .inl ⟨rfl, rfl⟩⟩
theorem RowA.read0 {w : World} {base : Nat} {v : Value} {l : List At} (h : RowA w base v l) : ∃ A c, v = .slice A l.length c ∧ RdA w A l.length l ∧ (A = none → c = 0) := by
  obtain ⟨A, c, hv, hr⟩ := h.read
  refine ⟨A, c, hv, hr, fun hA => ?_⟩
  rcases h.2 with ⟨h1, _⟩ | ⟨g, cap, cur, h1, _⟩
  · rw [hv] at h1
    injection h1
  · rw [hv, hA] at h1
    injection h1 with h1
    cases h1
/-- A row of attributes is no other thing's block. -/
theorem RowA.apart {w : World} {base tb : Nat} {v : Value} {l : List At} {t : TypeId} {cs : Array Value} {fr : Nat × Nat} (h : RowA w base v l) (ht : Blk w tb t cs fr) (hne : t ≠ 42) : v.ownBlock ≠ some tb := by
  rcases h.2 with ⟨h1, _⟩ | ⟨g, cap, cur, h1, _, hg, _⟩
  · rw [h1]; intro e; cases e
  · rw [h1]
    intro e
    have e : some g = some tb := e
    cases e
    unfold Blk at ht
    rw [ht] at hg
    injection hg with hg
    injection hg with _ hg
    exact hne hg
theorem RowA.set {w : World} {base tb : Nat} {v : Value} {l : List At} {t : TypeId} {cs : Array Value} {fr : Nat × Nat} (h : RowA w base v l) (ht : Blk w tb t cs fr) (hne : t ≠ 42) (i : Nat) (u : Value) : RowA (w.setCell ⟨tb, i, none⟩ u) base v l :=
  owns_but h ((But.refl (fun k => k = tb) w).setCell ⟨tb, i, none⟩ u (.inl rfl)) (fun _ hg e => h.apart ht hne (by rw [hg, e]))

end Go.Proofs.Ytjghkiphfpeocaa
