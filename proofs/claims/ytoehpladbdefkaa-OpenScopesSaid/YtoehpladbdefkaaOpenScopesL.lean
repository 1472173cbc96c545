/- OpenScopes: the plain law. -/
import Derived.Test.YtoehpladbdefkaaOpenL
namespace Go.Proofs.Ytoehpladbdefkaa

theorem bound_any {kind ns : Int} {s : ByteArray} (hk : kind = 2 ∨ kind = 3) (h : openB kind ns s = false) : openB 1 ns s = false := by
  unfold openB at *
  rcases hk with rfl | rfl
  all_goals simp_all
theorem scan_any {kind : Int} {names : List ByteArray} (hk : kind = 2 ∨ kind = 3) : ∀ r : List (Int × ByteArray), scanB kind names r = true → scanB 1 names r = true
  | [], h => by simp [scanB] at h
  | x :: r, h => by
    unfold scanB at h ⊢
    split at h
    · rename_i h1; rw [if_pos h1]
    · rename_i h1
      rw [if_neg h1]
      split at h
      · cases h
      · rename_i h2
        rw [if_neg (by rw [bound_any hk (by simpa using h2)]; decide)]
        exact scan_any hk r h
theorem scope_any {kind : Int} {l : List (Int × ByteArray)} {names : List ByteArray} (hk : kind = 2 ∨ kind = 3) (h : scopeB l kind names = true) : scopeB l 1 names = true := by
  unfold scopeB at *
  rcases hk with rfl | rfl
  · rw [if_neg (by omega)] at h ⊢; exact scan_any (.inl rfl) _ h
  · rw [if_neg (by omega)] at h ⊢; exact scan_any (.inr rfl) _ h
theorem scan_has {kind : Int} {names : List ByteArray} : ∀ r : List (Int × ByteArray), scanB kind names r = true → ∃ x ∈ r, (x.1 == 1 && inB x.2 names) = true
  | [], h => by simp [scanB] at h
  | x :: r, h => by
    unfold scanB at h
    split at h
    · rename_i h1; exact ⟨x, List.mem_cons_self, h1⟩
    · split at h
      · cases h
      · obtain ⟨y, hy, h2⟩ := scan_has r h; exact ⟨y, List.mem_cons_of_mem _ hy, h2⟩
theorem scope_has {kind : Int} {l : List It} {b : ByteArray} (h : scopeB (l.map key_item) kind [b] = true) : l.any (hasP b) = true := by
  unfold scopeB at h
  split at h
  · cases h
  · obtain ⟨y, hy, h2⟩ := scan_has _ h
    obtain ⟨z, hz, rfl⟩ := List.mem_map.1 (List.mem_reverse.1 hy)
    exact List.any_eq_true.2 ⟨z, hz, h2⟩
def tableB : ByteArray := ⟨#[116, 97, 98, 108, 101]⟩
theorem scope_table {kind : Int} {l : List It} {h : Int} {b : ByteArray} (hk : 1 ≤ kind ∧ kind ≤ 4) (hb : (b.toList == tableB.toList) = false) : scopeB ((l ++ [(⟨h, 1, tableB, none, 0, 0⟩ : It)]).map key_item) kind [b] = false := by
  have hb' : (tableB.toList == b.toList) = false := by rw [BEq.comm]; exact hb
  unfold scopeB
  split
  · rfl
  · simp only [List.map_append, List.map_cons, List.map_nil, List.reverse_append, List.reverse_cons, List.reverse_nil, List.nil_append, List.singleton_append]
    refine scanB_end ?_ ?_
    · simp [key_item, inB, hb']
    · have h4 : kind = 1 ∨ kind = 2 ∨ kind = 3 ∨ kind = 4 := by omega
      rcases h4 with rfl | rfl | rfl | rfl <;> simp [openB, key_item, boundB, inB, boundN, tablesN, tableB, Lib.toList_data]
theorem scope_top {kind : Int} {l : List It} {h : Int} {b : ByteArray} (hk : 1 ≤ kind ∧ kind ≤ 4) : scopeB ((l ++ [(⟨h, 1, b, none, 0, 0⟩ : It)]).map key_item) kind [b] = true := by
  unfold scopeB
  rw [if_neg (by omega)]
  simp only [List.map_append, List.map_cons, List.map_nil, List.reverse_append, List.reverse_cons, List.reverse_nil, List.nil_append, List.singleton_append]
  exact scanB_hit (by simp [key_item, inB])
theorem until_top {l : List It} {h : Int} {b : ByteArray} : untilN [b] (l ++ [(⟨h, 1, b, none, 0, 0⟩ : It)]) = 1 := (until_hit (by simp [inB])).1
end Go.Proofs.Ytoehpladbdefkaa
