/- An argument that is a slice of integers: what the walk is told of it. -/
import Derived.Test.YtpdbbpmkdkjppaaDoorEncInt
import Derived.ChangeSlices
import Derived.ProofKit
namespace Go.Proofs.YtpdbbpmkdkjppaaDoor
open Go.ChangeShapes Go.WideShapes Go.ChangeAt Go.RowKit

theorem ints_row (l : List Int) : l.flatMap enc_int = l.map (Value.int .i64) := by
  induction l with
  | nil => rfl
  | cons a l ih => rw [List.flatMap_cons, ih]; rfl
theorem rd_ints {H : Type} {enc : TypeId × Value → H} {P : Program} {w : World} {base : Nat} {held : Bool} {t e : TypeId} (ht : P.underlying t = some (.slice e)) (he : P.underlying e = some (.int .i64)) (hc : P.cellsOf e = 1)
    {A : Option Addr} {n c : Nat} {d : DataW H} {ps : List MemPlace} (h : DataW.Trod enc P w base (fun _ => true) held t (.slice A n c) d ps) :
    ∃ l : List Int, n = l.length ∧ Rd w A n 1 (l.flatMap enc_int) ∧ n ≤ c ∧ c ≤ maxLen := by
  obtain ⟨fuel, hf⟩ := h
  rcases open_ints ht he hc hf with ⟨hcs, _⟩ | ⟨a, len, cap, zs, hcs, _, hl, hm, hz, _, hcell, _⟩
  · simp [Value.cells] at hcs
    obtain ⟨rfl, rfl, rfl⟩ := hcs
    exact ⟨[], rfl, ⟨rfl, by simp, fun h => absurd h (by omega)⟩, Nat.le_refl _, Nat.zero_le _⟩
  · simp [Value.cells] at hcs
    obtain ⟨rfl, rfl, rfl⟩ := hcs
    have hz' : zs.length = c := by simpa using hz
    have hlen : (zs.take n).length = n := by rw [List.length_take]; omega
    refine ⟨zs.take n, hlen.symm, ⟨by rw [row_len encOk_int, hlen], row_one encOk_int _, fun _ => ⟨a, rfl, fun j u hu => ?_⟩⟩, hl, hm⟩
    rw [ints_row, List.getElem?_map, List.getElem?_take] at hu
    split at hu
    · rename_i hj
      have hjz : j < zs.length := by omega
      rw [List.getElem?_eq_getElem hjz] at hu
      simp only [Option.map_some, Option.some.injEq] at hu
      rw [hcell j hjz, ← hu]
      congr 2
      exact (List.getElem_eq_getD 0).symm
    · simp at hu
end Go.Proofs.YtpdbbpmkdkjppaaDoor
