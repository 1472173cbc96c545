/- Two texts that begin alike. No program in sight. -/
import Derived.Test.YtjghkiphfpeocaaRefL
namespace Go.Proofs.Ytjghkiphfpeocaa
open Go.RowKit

/-- Two texts that begin alike. -/
structure Alike (n : Nat) (a b : List UInt8) : Prop where
  ha : n ≤ a.length
  hb : n ≤ b.length
  eq : a.take n = b.take n
theorem Alike.at {n : Nat} {a b : List UInt8} (h : Alike n a b) (j : Nat) (hj : j < n) : a[j]? = b[j]? := by
  rw [← List.getElem?_take_of_lt hj, h.eq, List.getElem?_take_of_lt hj]
theorem occ_local (l sub : List UInt8) (n j : Nat) (h : j + sub.length ≤ n) : Lib.occAt l sub j = Lib.occAt (l.take n) sub j := by
  unfold Lib.occAt
  rw [List.drop_take, Bool.eq_iff_iff, List.isPrefixOf_iff_prefix, List.isPrefixOf_iff_prefix, List.prefix_take_iff]
  exact ⟨fun h' => ⟨h', by omega⟩, fun h' => h'.1⟩
theorem Alike.occ {n : Nat} {a b : List UInt8} (h : Alike n a b) (sub : List UInt8) (j : Nat) (hj : j + sub.length ≤ n) : Lib.occAt b sub j = Lib.occAt a sub j := by
  rw [occ_local b sub n j hj, occ_local a sub n j hj, h.eq]
theorem occ_get {l sub : List UInt8} {k i : Nat} (h : Lib.occAt l sub k = true) (hi : i < sub.length) : l[k + i]? = sub[i]? := by
  unfold Lib.occAt at h
  rw [List.isPrefixOf_iff_prefix] at h
  obtain ⟨r, hr⟩ := h
  rw [← List.getElem?_drop, ← hr, List.getElem?_append_left hi]
/-- Behind a sign that a text has not, it does not stand. -/
theorem occ_over {l sub : List UInt8} {n j : Nat} {c : UInt8} (hc : l[n]? = some c) (hs : c ∉ sub) (hj : j ≤ n) (hn : n < j + sub.length) : Lib.occAt l sub j = false := by
  cases h : Lib.occAt l sub j with
  | false => rfl
  | true =>
    have := occ_get h (show n - j < sub.length by omega)
    rw [show j + (n - j) = n by omega, hc] at this
    exact absurd (List.mem_of_getElem? this.symm) hs
theorem Alike.starts {n : Nat} {a b : List UInt8} (h : Alike n a b) (sub : List UInt8) (j : Nat) (hj : j < n) (hc : a[n - 1]? = some 62) (hs : (62 : UInt8) ∉ sub) : startsL b sub j = startsL a sub j := by
  rw [startsL_occ, startsL_occ]
  by_cases hl : j + sub.length ≤ n
  · exact h.occ sub j hl
  · rw [occ_over hc hs (by omega) (by omega), occ_over (by rw [← h.at (n - 1) (by omega)]; exact hc) hs (by omega) (by omega)]
theorem Alike.low {n : Nat} {a b : List UInt8} (h : Alike n a b) : Alike n (lowL a) (lowL b) :=
  ⟨by rw [lowL_length]; exact h.ha, by rw [lowL_length]; exact h.hb, by unfold lowL; rw [← List.map_take, ← List.map_take, h.eq]⟩
theorem Alike.fold {n : Nat} {a b : List UInt8} (h : Alike n a b) (sub : List UInt8) (j : Nat) (hj : j < n) (hc : a[n - 1]? = some 62) (hs : (62 : UInt8) ∉ lowL sub) : foldL b sub j = foldL a sub j := by
  unfold foldL
  exact h.low.starts (lowL sub) j hj (by unfold lowL; rw [List.getElem?_map, hc]; rfl) hs
theorem find_occ {l sub : List UInt8} {i : Nat} (hi : i ≤ l.length) (h : findL l sub i < l.length) : Lib.occAt l sub (findL l sub i) = true := by
  rcases (findL_cases l sub i hi).1 with h1 | h1
  · exact h1
  · omega
theorem Alike.find {n : Nat} {a b : List UInt8} (h : Alike n a b) (sub : List UInt8) (i : Nat) (hi : i ≤ a.length) (hf : findL a sub i < a.length) (hn : findL a sub i + sub.length ≤ n) : findL b sub i = findL a sub i := by
  have ho := find_occ hi hf
  have hge := findL_ge a sub i hi
  refine findL_first b sub i _ hge (by have := h.hb; omega) ?_ (fun j h1 h2 => ?_)
  · rw [h.occ sub _ hn]; exact ho
  · rw [h.occ sub j (by omega)]
    exact (findL_cases a sub i hi).2 j h1 h2
theorem stop_first (p : UInt8 → Bool) (l : List UInt8) : ∀ (d i k : Nat), k - i = d → i ≤ k → (∀ j, i ≤ j → j < k → ∃ c, l[j]? = some c ∧ p c = true) → (∃ c, l[k]? = some c ∧ p c = false) → stopL p l i = k
  | 0, i, k, hd, hik, _, ⟨c, hc, hp⟩ => by
    obtain rfl : i = k := by omega
    obtain ⟨hlt, e⟩ := List.getElem?_eq_some_iff.1 hc
    exact stopL_stop p l i hlt (by rw [e]; exact hp)
  | d + 1, i, k, hd, hik, hm, hk => by
    obtain ⟨c, hc, hp⟩ := hm i (Nat.le_refl _) (by omega)
    obtain ⟨hlt, e⟩ := List.getElem?_eq_some_iff.1 hc
    rw [← stopL_step p l i hlt (by rw [e]; exact hp)]
    exact stop_first p l d (i + 1) k (by omega) (by omega) (fun j h1 h2 => hm j (by omega) h2) hk
theorem Alike.stop {n : Nat} {a b : List UInt8} (h : Alike n a b) (p : UInt8 → Bool) (i : Nat) (hi : i ≤ a.length) (hs : stopL p a i < n) : stopL p b i = stopL p a i := by
  have hge := stopL_ge p a i
  have hna := h.ha
  refine stop_first p b _ i _ rfl hge (fun j h1 h2 => ?_) ?_
  · exact ⟨a[j]'(by omega), by rw [← h.at j (by omega), List.getElem?_eq_getElem], stopL_mem p a i j hi h1 h2 _⟩
  · exact ⟨a[stopL p a i]'(by omega), by rw [← h.at _ hs, List.getElem?_eq_getElem], stopL_at p a i hi (by omega)⟩
theorem Alike.piece {n : Nat} {a b : List UInt8} (h : Alike n a b) (i j : Nat) (hj : j ≤ n) : pieceL b i j = pieceL a i j := by
  unfold pieceL
  have e : ∀ l : List UInt8, (l.drop i).take (j - i) = ((l.take n).drop i).take (j - i) := fun l => by
    rw [List.drop_take, List.take_take, Nat.min_eq_left (by omega)]
  rw [e b, e a, h.eq]
end Go.Proofs.Ytjghkiphfpeocaa
