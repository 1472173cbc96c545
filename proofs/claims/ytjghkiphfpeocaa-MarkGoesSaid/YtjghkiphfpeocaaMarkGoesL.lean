/- What was told goes on, and is told the same with anything behind it: the plain law. No program in sight. -/
import Derived.Test.YtjghkiphfpeocaaMarkR
import Derived.Test.YtjghkiphfpeocaaMarkRef
namespace Go.Proofs.Ytjghkiphfpeocaa
open Go.RowKit

/-- Two texts that begin alike. -/
structure Alike (n : Nat) (a b : List UInt8) : Prop where
  ha : n ≤ a.length
  hb : n ≤ b.length
  eq : a.take n = b.take n
theorem Alike.at {n : Nat} {a b : List UInt8} (h : Alike n a b) (j : Nat) (hj : j < n) : a[j]? = b[j]? := by
  rw [← List.getElem?_take_of_lt hj, h.eq, List.getElem?_take_of_lt hj]
theorem occ_local (l sub : List UInt8) (n j : Nat) (h : j + sub.length ≤ n) : Lib.occAt l sub j = Lib.occAt (l.take n) sub j := by
  unfold Lib.occAt
  rw [List.drop_take, Bool.eq_iff_iff, List.isPrefixOf_iff_prefix, List.isPrefixOf_iff_prefix, List.prefix_take_iff]
  exact ⟨fun h' => ⟨h', by omega⟩, fun h' => h'.1⟩
theorem Alike.occ {n : Nat} {a b : List UInt8} (h : Alike n a b) (sub : List UInt8) (j : Nat) (hj : j + sub.length ≤ n) : Lib.occAt b sub j = Lib.occAt a sub j := by
  rw [occ_local b sub n j hj, occ_local a sub n j hj, h.eq]
theorem occ_get {l sub : List UInt8} {k i : Nat} (h : Lib.occAt l sub k = true) (hi : i < sub.length) : l[k + i]? = sub[i]? := by
  unfold Lib.occAt at h
  rw [List.isPrefixOf_iff_prefix] at h
  obtain ⟨r, hr⟩ := h
  rw [← List.getElem?_drop, ← hr, List.getElem?_append_left hi]
/-- Behind a sign that a text has not, it does not stand. -/
theorem occ_over {l sub : List UInt8} {n j : Nat} {c : UInt8} (hc : l[n]? = some c) (hs : c ∉ sub) (hj : j ≤ n) (hn : n < j + sub.length) : Lib.occAt l sub j = false := by
  cases h : Lib.occAt l sub j with
  | false => rfl
  | true =>
    have := occ_get h (show n - j < sub.length by omega)
    rw [show j + (n - j) = n by omega, hc] at this
    exact absurd (List.mem_of_getElem? this.symm) hs
theorem Alike.starts {n : Nat} {a b : List UInt8} (h : Alike n a b) (sub : List UInt8) (j : Nat) (hj : j < n) (hc : a[n - 1]? = some 62) (hs : (62 : UInt8) ∉ sub) : startsL b sub j = startsL a sub j := by
  rw [startsL_occ, startsL_occ]
  by_cases hl : j + sub.length ≤ n
  · exact h.occ sub j hl
  · rw [occ_over hc hs (by omega) (by omega), occ_over (by rw [← h.at (n - 1) (by omega)]; exact hc) hs (by omega) (by omega)]
theorem Alike.low {n : Nat} {a b : List UInt8} (h : Alike n a b) : Alike n (lowL a) (lowL b) :=
  ⟨by rw [lowL_length]; exact h.ha, by rw [lowL_length]; exact h.hb, by unfold lowL; rw [← List.map_take, ← List.map_take, h.eq]⟩
theorem Alike.fold {n : Nat} {a b : List UInt8} (h : Alike n a b) (sub : List UInt8) (j : Nat) (hj : j < n) (hc : a[n - 1]? = some 62) (hs : (62 : UInt8) ∉ lowL sub) : foldL b sub j = foldL a sub j := by
  unfold foldL
  exact h.low.starts (lowL sub) j hj (by unfold lowL; rw [List.getElem?_map, hc]; rfl) hs
theorem find_occ {l sub : List UInt8} {i : Nat} (hi : i ≤ l.length) (h : findL l sub i < l.length) : Lib.occAt l sub (findL l sub i) = true := by
  rcases (findL_cases l sub i hi).1 with h1 | h1
  · exact h1
  · omega
theorem Alike.find {n : Nat} {a b : List UInt8} (h : Alike n a b) (sub : List UInt8) (i : Nat) (hi : i ≤ a.length) (hf : findL a sub i < a.length) (hn : findL a sub i + sub.length ≤ n) : findL b sub i = findL a sub i := by
  have ho := find_occ hi hf
  have hge := findL_ge a sub i hi
  refine findL_first b sub i _ hge (by have := h.hb; omega) ?_ (fun j h1 h2 => ?_)
  · rw [h.occ sub _ hn]; exact ho
  · rw [h.occ sub j (by omega)]
    exact (findL_cases a sub i hi).2 j h1 h2
theorem stop_first (p : UInt8 → Bool) (l : List UInt8) : ∀ (d i k : Nat), k - i = d → i ≤ k → (∀ j, i ≤ j → j < k → ∃ c, l[j]? = some c ∧ p c = true) → (∃ c, l[k]? = some c ∧ p c = false) → stopL p l i = k
  | 0, i, k, hd, hik, _, ⟨c, hc, hp⟩ => by
    obtain rfl : i = k := by omega
    obtain ⟨hlt, e⟩ := List.getElem?_eq_some_iff.1 hc
    exact stopL_stop p l i hlt (by rw [e]; exact hp)
  | d + 1, i, k, hd, hik, hm, hk => by
    obtain ⟨c, hc, hp⟩ := hm i (Nat.le_refl _) (by omega)
    obtain ⟨hlt, e⟩ := List.getElem?_eq_some_iff.1 hc
    rw [← stopL_step p l i hlt (by rw [e]; exact hp)]
    exact stop_first p l d (i + 1) k (by omega) (by omega) (fun j h1 h2 => hm j (by omega) h2) hk
theorem Alike.stop {n : Nat} {a b : List UInt8} (h : Alike n a b) (p : UInt8 → Bool) (i : Nat) (hi : i ≤ a.length) (hs : stopL p a i < n) : stopL p b i = stopL p a i := by
  have hge := stopL_ge p a i
  have hna := h.ha
  refine stop_first p b _ i _ rfl hge (fun j h1 h2 => ?_) ?_
  · exact ⟨a[j]'(by omega), by rw [← h.at j (by omega), List.getElem?_eq_getElem], stopL_mem p a i j hi h1 h2 _⟩
  · exact ⟨a[stopL p a i]'(by omega), by rw [← h.at _ hs, List.getElem?_eq_getElem], stopL_at p a i hi (by omega)⟩
theorem Alike.piece {n : Nat} {a b : List UInt8} (h : Alike n a b) (i j : Nat) (hj : j ≤ n) : pieceL b i j = pieceL a i j := by
  unfold pieceL
  have e : ∀ l : List UInt8, (l.drop i).take (j - i) = ((l.take n).drop i).take (j - i) := fun l => by
    rw [List.drop_take, List.take_take, Nat.min_eq_left (by omega)]
  rw [e b, e a, h.eq]
/-- A mark that ended with the sign '>', ahead of the text's end. -/
def Ended (l : List UInt8) (r : Mk) (n : Nat) : Prop := r.2.1 = (n : Int) ∧ n < l.length
theorem behind_ended {l : List UInt8} {i n : Nat} (h : (behindL l i : Int) = (n : Int)) (hn : n < l.length) : findL l [62] i + 1 = n ∧ findL l [62] i < l.length := by
  unfold behindL at h
  omega
theorem Alike.behind {n : Nat} {a b : List UInt8} (h : Alike n a b) (i : Nat) (hi : i ≤ a.length) (he : findL a [62] i + 1 = n) (hf : findL a [62] i < a.length) : behindL b i = behindL a i := by
  unfold behindL
  rw [h.find [62] i hi hf (by show findL a [62] i + 1 ≤ n; omega)]
  have := h.ha
  have := h.hb
  omega
theorem rubbish_local {n : Nat} {a b : List UInt8} (h : Alike n a b) (i : Nat) (hi : i ≤ a.length) (he : Ended a (rubbishM a i) n) : rubbishM b i = rubbishM a i := by
  obtain ⟨h1, h2⟩ := behind_ended he.1 he.2
  unfold rubbishM
  rw [h.behind i hi h1 h2, h.find [62] i hi h2 (by show findL a [62] i + 1 ≤ n; omega), h.piece i _ (by omega)]
theorem doctype_local {n : Nat} {a b : List UInt8} (h : Alike n a b) (i : Nat) (hi : i ≤ a.length) (he : Ended a (doctypeM a i) n) : doctypeM b i = doctypeM a i := by
  have g1 := stopL_le spaceB a i hi
  have g2 := stopL_le (fun c => !hasB endD c) a (skipL a i) g1
  have g3 := stopL_ge spaceB a i
  have g4 := stopL_ge (fun c => !hasB endD c) a (skipL a i)
  have g5 := findL_ge a [62] (untilL a endD (skipL a i)) g2
  obtain ⟨h1, h2⟩ := behind_ended (i := untilL a endD (skipL a i)) he.1 he.2
  have hu : untilL a endD (skipL a i) < n := by omega
  have e1 : skipL b i = skipL a i := h.stop spaceB i hi (by show skipL a i < n; have : skipL a i ≤ untilL a endD (skipL a i) := g4; omega)
  have e2 : untilL b endD (skipL a i) = untilL a endD (skipL a i) := h.stop _ _ g1 hu
  unfold doctypeM
  rw [e1, e2, h.behind (untilL a endD (skipL a i)) g2 h1 h2, h.piece _ _ (by omega)]
theorem data_local {n : Nat} {a b : List UInt8} (h : Alike n a b) (i : Nat) (hi : i ≤ a.length) (he : Ended a (dataM a i) n) : dataM b i = dataM a i := by
  obtain ⟨h1, h2⟩ := he
  have h1 : ((min (findL a endC i + 3) a.length : Nat) : Int) = (n : Int) := h1
  have hb := h.hb
  have hf : findL a endC i < a.length := by omega
  have e := h.find endC i hi hf (by show findL a endC i + 3 ≤ n; omega)
  unfold dataM
  rw [e, h.piece i _ (by omega), show min (findL a endC i + 3) b.length = min (findL a endC i + 3) a.length by omega]
theorem ne_of_f {x : Bool} (h : x = false) : ¬ x = true := by rw [h]; decide
theorem comment_local {n : Nat} {a b : List UInt8} (h : Alike n a b) (i : Nat) (hi : i ≤ a.length) (he : Ended a (commentM a i) n) : commentM b i = commentM a i := by
  obtain ⟨h1, h2⟩ := he
  have hna := h.ha
  have hnb := h.hb
  have gA := findL_ge a endA i hi
  have gB := findL_ge a endB i hi
  have cA := (findL_cases a endA i hi).2
  have cB := (findL_cases a endB i hi).2
  cases p1 : startsL a [62] i with
  | true =>
    have hn : i + 1 = n := by unfold commentM at h1; rw [if_pos p1] at h1; exact Int.ofNat.inj h1
    have q1 : startsL b [62] i = true := (h.occ [62] i (by show i + 1 ≤ n; omega)).trans p1
    unfold commentM
    rw [if_pos p1, if_pos q1]
  | false =>
    cases p2 : startsL a [45, 62] i with
    | true =>
      have hn : i + 2 = n := by unfold commentM at h1; rw [if_neg (ne_of_f p1), if_pos p2] at h1; exact Int.ofNat.inj h1
      have q1 : startsL b [62] i = false := (h.occ [62] i (by show i + 1 ≤ n; omega)).trans p1
      have q2 : startsL b [45, 62] i = true := (h.occ [45, 62] i (by show i + 2 ≤ n; omega)).trans p2
      unfold commentM
      rw [if_neg (ne_of_f p1), if_pos p2, if_neg (ne_of_f q1), if_pos q2]
    | false =>
      have hx := h1
      unfold commentM at hx
      rw [if_neg (ne_of_f p1), if_neg (ne_of_f p2)] at hx
      have hq : i + 3 ≤ n → startsL b [62] i = false ∧ startsL b [45, 62] i = false := fun hin =>
        ⟨(h.occ [62] i (by show i + 1 ≤ n; omega)).trans p1, (h.occ [45, 62] i (by show i + 2 ≤ n; omega)).trans p2⟩
      by_cases hab : findL a endA i < findL a endB i
      · rw [if_pos hab] at hx
        have hn : findL a endA i + 3 = n := Int.ofNat.inj hx
        obtain ⟨q1, q2⟩ := hq (by omega)
        have eA := h.find endA i hi (by omega) (by show findL a endA i + 3 ≤ n; omega)
        have hB : findL a endA i < findL b endB i := by
          have gb := findL_ge b endB i (by omega)
          rcases Nat.lt_or_ge (findL a endA i) (findL b endB i) with c | c
          · exact c
          · have ho := find_occ (l := b) (sub := endB) (i := i) (by omega) (by omega)
            by_cases e : findL b endB i = findL a endA i
            · have h3 := find_occ (l := b) (sub := endA) (i := i) (by omega) (by rw [eA]; omega)
              rw [eA] at h3
              rw [e, occ_not_b _ _ h3] at ho
              exact absurd ho (by decide)
            · rw [h.occ endB _ (by show findL b endB i + 4 ≤ n; omega), cB _ gb (by omega)] at ho
              exact absurd ho (by decide)
        unfold commentM
        rw [if_neg (ne_of_f p1), if_neg (ne_of_f p2), if_neg (ne_of_f q1), if_neg (ne_of_f q2), if_pos hab, eA, if_pos hB, h.piece i _ (by omega)]
      · rw [if_neg hab] at hx
        by_cases hba : findL a endB i < findL a endA i
        · rw [if_pos hba] at hx
          have hn : findL a endB i + 4 = n := Int.ofNat.inj hx
          obtain ⟨q1, q2⟩ := hq (by omega)
          have eB := h.find endB i hi (by omega) (by show findL a endB i + 4 ≤ n; omega)
          have hA : findL a endB i < findL b endA i := by
            have gb := findL_ge b endA i (by omega)
            rcases Nat.lt_or_ge (findL a endB i) (findL b endA i) with c | c
            · exact c
            · have ho := find_occ (l := b) (sub := endA) (i := i) (by omega) (by omega)
              rw [h.occ endA _ (by show findL b endA i + 3 ≤ n; omega), cA _ gb (by omega)] at ho
              exact absurd ho (by decide)
          unfold commentM
          rw [if_neg (ne_of_f p1), if_neg (ne_of_f p2), if_neg (ne_of_f q1), if_neg (ne_of_f q2), if_neg hab, if_pos hba, eB, if_neg (by omega), if_pos hA, h.piece i _ (by omega)]
        · rw [if_neg hba] at hx
          have : a.length = n := Int.ofNat.inj hx
          omega
end Go.Proofs.Ytjghkiphfpeocaa
