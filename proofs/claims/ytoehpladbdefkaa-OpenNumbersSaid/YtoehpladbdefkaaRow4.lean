/- A row of elements of four cells: one is set. No program in sight. -/
import Derived.Test.YtoehpladbdefkaaBase
namespace Go.Proofs.Ytoehpladbdefkaa
open Go.RowKit

theorem row_set4 {α : Type} {enc : α → List Value} (hE : EncOk enc 4) (l : List α) (j : Nat) (x : α) (hj : j < l.length) (u0 u1 u2 u3 : Value) (hu : enc x = [u0, u1, u2, u3]) :
    (((((l.flatMap enc).set (j * 4) u0).set (j * 4 + 1) u1).set (j * 4 + 2) u2).set (j * 4 + 3) u3) = (l.set j x).flatMap enc := by
  have hl := row_len hE l
  have hl2 := row_len hE (l.set j x)
  rw [List.length_set] at hl2
  apply List.ext_getElem?
  intro i
  by_cases hi : i < l.length * 4
  · have hq : i / 4 < l.length := by omega
    obtain ⟨y, hy⟩ : ∃ y, (l.set j x)[i / 4]? = some y := ⟨_, List.getElem?_eq_getElem (by rw [List.length_set]; exact hq)⟩
    have hlen : (enc y).length = 4 := (hE y).1
    obtain ⟨u, hu4⟩ : ∃ u, (enc y)[i % 4]? = some u := ⟨_, List.getElem?_eq_getElem (by omega)⟩
    have hr := row_at hE (l.set j x) (i / 4) (i % 4) y u hy hu4
    rw [show i / 4 * 4 + i % 4 = i by omega] at hr
    rw [hr]
    by_cases hij : i / 4 = j
    · rw [hij, List.getElem?_set_self hj] at hy
      cases hy
      rw [hu] at hu4
      have h4 : i % 4 = 0 ∨ i % 4 = 1 ∨ i % 4 = 2 ∨ i % 4 = 3 := by omega
      rcases h4 with e | e | e | e
      · rw [e] at hu4
        have : u0 = u := by simpa using hu4
        subst this
        rw [List.getElem?_set_ne (by omega), List.getElem?_set_ne (by omega), List.getElem?_set_ne (by omega), show i = j * 4 by omega, List.getElem?_set_self (by omega)]
      · rw [e] at hu4
        have : u1 = u := by simpa using hu4
        subst this
        rw [List.getElem?_set_ne (by omega), List.getElem?_set_ne (by omega), show i = j * 4 + 1 by omega, List.getElem?_set_self (by rw [List.length_set]; omega)]
      · rw [e] at hu4
        have : u2 = u := by simpa using hu4
        subst this
        rw [List.getElem?_set_ne (by omega), show i = j * 4 + 2 by omega, List.getElem?_set_self (by simp only [List.length_set]; omega)]
      · rw [e] at hu4
        have : u3 = u := by simpa using hu4
        subst this
        rw [show i = j * 4 + 3 by omega, List.getElem?_set_self (by simp only [List.length_set]; omega)]
    · rw [List.getElem?_set_ne (by omega)] at hy
      have hr2 := row_at hE l (i / 4) (i % 4) y u hy hu4
      rw [show i / 4 * 4 + i % 4 = i by omega] at hr2
      rw [List.getElem?_set_ne (by omega), List.getElem?_set_ne (by omega), List.getElem?_set_ne (by omega), List.getElem?_set_ne (by omega), hr2]
  · rw [List.getElem?_eq_none (by simp only [List.length_set]; omega), List.getElem?_eq_none (by omega)]
theorem own_set4 {w : World} {g : Nat} {e : TypeId} {xs rest : List Value} {k : Nat} (u0 u1 u2 u3 : Value) (hb : Blk w g e (xs ++ rest).toArray (0, 0)) (hk : k + 3 < xs.length) :
    Blk ((((w.setCell ⟨g, k, none⟩ u0).setCell ⟨g, k + 1, none⟩ u1).setCell ⟨g, k + 2, none⟩ u2).setCell ⟨g, k + 3, none⟩ u3) g e (((((xs.set k u0).set (k + 1) u1).set (k + 2) u2).set (k + 3) u3) ++ rest).toArray (0, 0) :=
  own_set1 (own_set1 (own_set1 (own_set1 hb (by omega)) (by rw [List.length_set]; omega)) (by simp only [List.length_set]; omega)) (by simp only [List.length_set]; omega)
end Go.Proofs.Ytoehpladbdefkaa
