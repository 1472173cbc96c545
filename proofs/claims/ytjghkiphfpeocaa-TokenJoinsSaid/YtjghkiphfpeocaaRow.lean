/- Rows of elements of k cells: what copy, append, clear and slices do to a block that is known whole. No program in sight. -/
import Derived.Test.YtjghkiphfpeocaaMem
import Derived.Laws.CopyRow
import Derived.Laws.CopyOwn
import Derived.Laws.AppendOwn
import Derived.Laws.OwnMore
import Derived.Maps.AppendAt
import Derived.Lib.AppendZerosOnto
import Derived.Lib.Overlaps
import Derived.Lib.SlBuf
import Derived.StillTailTactics
import Derived.Lib.Hide
namespace Go.Proofs.Ytjghkiphfpeocaa
open Go.RowKit

/-! ### lists -/
theorem take_left {α : Type} (a b : List α) (n : Nat) (h : a.length = n) : (a ++ b).take n = a := by subst h; simp
theorem drop_left {α : Type} (a b : List α) (n : Nat) (h : a.length = n) : (a ++ b).drop n = b := by subst h; simp

/-- A block written anew. -/
theorem Blk.setRow {w : World} {g : Nat} {t : TypeId} {cs : Array Value} {fr : Nat × Nat} (h : Blk w g t cs fr) (ds : Array Value) : Blk (w.setRow g ds) g t ds fr := setRow_heap w g cs ds t fr h
theorem Blk.setRow_far {w : World} {g g' : Nat} {t : TypeId} {cs : Array Value} {fr : Nat × Nat} (h : Blk w g t cs fr) (hne : g ≠ g') (ds : Array Value) : Blk (w.setRow g' ds) g t cs fr := by
  unfold Blk at *
  rw [setRow_other w g' g ds hne]
  exact h
theorem grownBy_setRow (w : World) (g : Nat) (ds : Array Value) : w.grownBy (w.setRow g ds) (some g) :=
  ⟨rfl, rfl, rfl, by simp, fun k _ hne => setRow_other w g k ds (fun e => hne (by rw [e]))⟩

/-- copy, elements of k cells: all is read before anything is written. -/
theorem run_copy_k {P : Program} (w : World) (dT sT ty e : TypeId) (k g o dLen dCap : Nat) (a : Addr) (sLen sCap : Nat) (cur : Array Value) (t : TypeId) (cs : List Value)
    (hu : P.underlying dT = some (.slice e)) (hs : (P.info? e).map (·.size) = some k)
    (hg : Blk w g t cur (0, 0)) (hn : cs.length = Nat.min sLen dLen * k)
    (hsrc : ∀ j v, cs[j]? = some v → w.cell? (a.add j) = some v) (hfit : o + cs.length ≤ cur.size) (h1 : ∀ v ∈ cs, v.oneCell' = true) :
    (Builtin.copy_ #[dT, sT] ty #[.slice (some ⟨g, o, none⟩) dLen dCap, .slice (some a) sLen sCap]).run P w =
      .ok (goInt (Nat.min sLen dLen)) (w.setRow g (cur.toList.take o ++ cs ++ cur.toList.drop (o + cs.length)).toArray) := by
  have hl := run_loadCells_list (P := P) w a cs hsrc
  have hst := run_storeCells_at P g o t cs 0 cur w hg (by simpa using hfit) h1
  cases hq : P.info? e with
  | none => simp [hq] at hs
  | some i =>
    have hi : i.size = k := by simpa [hq] using hs
    rw [hn] at hl
    simp only [Nat.add_zero] at hst
    simp [Builtin.copy_, run_underlying hu, Builtin.lenOf, Builtin.firstCells, sizeOf, typeInfo, hq, hi, hl, hst]

theorem run_copy_parts {P : Program} (w : World) (dT sT ty e : TypeId) (k g o dLen dCap : Nat) (a : Addr) (sLen sCap q : Nat) (A R : List Value) (t : TypeId) (cs : List Value)
    (hu : P.underlying dT = some (.slice e)) (hs : (P.info? e).map (·.size) = some k)
    (hg : Blk w g t (A ++ R).toArray (0, 0)) (hA : A.length = o) (hq : q = Nat.min sLen dLen) (hn : cs.length = q * k)
    (hsrc : ∀ j v, cs[j]? = some v → w.cell? (a.add j) = some v) (hfit : cs.length ≤ R.length) (h1 : ∀ v ∈ cs, v.oneCell' = true) :
    (Builtin.copy_ #[dT, sT] ty #[.slice (some ⟨g, o, none⟩) dLen dCap, .slice (some a) sLen sCap]).run P w =
      .ok (goInt q) (w.setRow g (A ++ cs ++ R.drop cs.length).toArray) := by
  subst hq
  have h := run_copy_k (P := P) w dT sT ty e k g o dLen dCap a sLen sCap (A ++ R).toArray t cs hu hs hg hn hsrc (by simp; omega) h1
  rw [h]
  have e1 : (A ++ R).take o = A := take_left _ _ _ hA
  have e2 : (A ++ R).drop (o + cs.length) = R.drop cs.length := by rw [← List.drop_drop, drop_left _ _ _ hA]
  simp only [e1, e2]

/-- append in place: there is room. -/
theorem run_append_room_k {P : Program} (w : World) (t ty e : TypeId) (k g n cap : Nat) (a : Option Addr) (m c : Nat) (cur : Array Value) (et : TypeId) (cs : List Value)
    (hu : P.underlying t = some (.slice e)) (hs : (P.info? e).map (·.size) = some k)
    (hg : Blk w g et cur (0, 0)) (hn : cs.length = m * k) (hroom : n + m ≤ cap)
    (hsrc : 0 < cs.length → ∃ ad, a = some ad ∧ ∀ j v, cs[j]? = some v → w.cell? (ad.add j) = some v) (hm : a = none → m = 0)
    (hfit : n * k + cs.length ≤ cur.size) (h1 : ∀ v ∈ cs, v.oneCell' = true) :
    (Builtin.append_ #[t, t] ty #[.slice (some ⟨g, 0, none⟩) n cap, .slice a m c]).run P w =
      .ok (.slice (some ⟨g, 0, none⟩) (n + m) cap) (w.setRow g (cur.toList.take (n * k) ++ cs ++ cur.toList.drop (n * k + cs.length)).toArray) := by
  have hst := run_storeCells_at P g (n * k) et cs 0 cur w hg (by simpa using hfit) h1
  simp only [Nat.add_zero] at hst
  have hadd : (⟨g, 0, none⟩ : Addr).add (n * k) = ⟨g, n * k, none⟩ := add0 g (n * k)
  cases hq : P.info? e with
  | none => simp [hq] at hs
  | some i =>
    have hi : i.size = k := by simpa [hq] using hs
    cases a with
    | none =>
      obtain rfl := hm rfl
      have hc0 : cs = [] := List.eq_nil_of_length_eq_zero (by omega)
      subst hc0
      simp only [List.append_nil, List.length_nil, Nat.add_zero] at hst
      have hroom' : n ≤ cap := hroom
      simp [Builtin.append_, run_underlying hu, Builtin.lenOf, Builtin.firstCells, sizeOf, typeInfo, hq, hi, hroom', hadd, hst]
    | some ad =>
      have hl : (loadCells ad (m * k)).run P w = .ok cs.toArray w := by
        have hl := run_loadCells_list (P := P) w ad cs (fun j v hj => by
          obtain ⟨ad', e, h⟩ := hsrc (by
            have := (List.getElem?_eq_some_iff.1 hj).1
            omega)
          cases e
          exact h j v hj)
        rwa [hn] at hl
      simp [Builtin.append_, run_underlying hu, Builtin.lenOf, Builtin.firstCells, sizeOf, typeInfo, hq, hi, hroom, hl, hadd, hst]

/-- clear of n elements from one on. -/
theorem run_clear_k {P : Program} (w : World) (t ty e : TypeId) (k g o n cap : Nat) (z : Value) (cur : Array Value) (et : TypeId)
    (hu : P.underlying t = some (.slice e)) (hz : ∀ w, (zeroValue e).run P w = .ok z w) (hzk : z.cells.size = k) (h1 : ∀ v ∈ z.cells, v.oneCell' = true)
    (hg : Blk w g et cur (0, 0)) (hn : 0 < n) (hfit : o + n * k ≤ cur.size) :
    ∃ zs : List Value, zs.length = n * k ∧ (∀ v ∈ zs, v.oneCell' = true) ∧ (Builtin.clear_ #[t] ty #[.slice (some ⟨g, o, none⟩) n cap]).run P w =
      .ok (.tuple #[]) (w.setRow g (cur.toList.take o ++ zs ++ cur.toList.drop (o + zs.length)).toArray) := by
  have hl : (Builtin.zeroCells z.cells n).toList.length = n * k := by rw [Array.length_toList, size_zeroCells, hzk]
  have h1' : ∀ v ∈ (Builtin.zeroCells z.cells n).toList, v.oneCell' = true := by
    intro v hv
    simp only [Builtin.zeroCells, Array.toList_map, List.mem_map] at hv
    obtain ⟨i, hi, rfl⟩ := hv
    have hi' : i < n * z.cells.size := by simpa using hi
    have hpos : 0 < z.cells.size := by
      rcases Nat.eq_zero_or_pos z.cells.size with h | h
      · rw [h] at hi'; simp at hi'
      · exact h
    have hlt : i % z.cells.size < z.cells.size := Nat.mod_lt _ hpos
    rw [getElem!_pos z.cells _ hlt]
    exact h1 _ (Array.getElem_mem hlt)
  have hst := run_storeCells_at P g o et (Builtin.zeroCells z.cells n).toList 0 cur w hg (by rw [hl]; simpa using hfit) h1'
  simp only [Nat.add_zero] at hst
  refine ⟨(Builtin.zeroCells z.cells n).toList, hl, h1', ?_⟩
  obtain ⟨m, rfl⟩ : ∃ m, n = m + 1 := ⟨n - 1, by omega⟩
  simp [Builtin.clear_, run_underlying hu, hz, hst]

/-! ### an owned row, taken apart and put together -/
theorem own_of_blk {w : World} {base g : Nat} {e : TypeId} {k n cap : Nat} {xs rest : List Value} (hb : base ≤ g) (hg : Blk w g e (xs ++ rest).toArray (0, 0)) (hl : xs.length = n * k) (hn : n ≤ cap) (hc : cap ≤ maxLen) (hr : rest.length = (cap - n) * k) :
    w.ownsRow base e k (.slice (some ⟨g, 0, none⟩) n cap) n xs := by
  refine ⟨hl, .inr ⟨g, cap, (xs ++ rest).toArray, rfl, hb, hg, hn, hc, ?_, ?_⟩⟩
  · simp only [List.size_toArray, List.length_append, hl, hr]
    rw [← Nat.add_mul]
    congr 1
    omega
  · simp only
    exact take_left _ _ _ hl
theorem own_parts {w : World} {base : Nat} {e : TypeId} {k n : Nat} {v : Value} {xs : List Value} (h : w.ownsRow base e k v n xs) (hn : 0 < n) :
    ∃ g cap rest, v = .slice (some ⟨g, 0, none⟩) n cap ∧ base ≤ g ∧ Blk w g e (xs ++ rest).toArray (0, 0) ∧ n ≤ cap ∧ cap ≤ maxLen ∧ rest.length = (cap - n) * k := by
  obtain ⟨hl, h⟩ := h
  rcases h with ⟨_, h0⟩ | ⟨g, cap, cur, hv, hb, hg, hnc, hc, hs, ht⟩
  · omega
  · refine ⟨g, cap, cur.toList.drop (n * k), hv, hb, ?_, hnc, hc, ?_⟩
    · rw [← ht, List.take_append_drop, Array.toArray_toList]
      exact hg
    · rw [List.length_drop, Array.length_toList, hs, Nat.sub_mul]

/-- A slice that reads as these cells, nil let in. -/
def Rd (w : World) (A : Option Addr) (n k : Nat) (xs : List Value) : Prop :=
  xs.length = n * k ∧ (∀ u ∈ xs, u.oneCell' = true) ∧ (0 < n → ∃ ad, A = some ad ∧ ∀ j u, xs[j]? = some u → w.cell? (ad.add j) = some u)
theorem Rd.keep {w w' : World} {A : Option Addr} {n k : Nat} {xs : List Value} (h : Rd w A n k xs) (hb : Below w.heap.size w w') : Rd w' A n k xs :=
  ⟨h.1, h.2.1, fun hn => let ⟨ad, e, hc⟩ := h.2.2 hn; ⟨ad, e, fun j u hu => cell_keep hb (hc j u hu)⟩⟩
theorem own_rd {w : World} {base : Nat} {e : TypeId} {k n : Nat} {v : Value} {xs : List Value} (h : w.ownsRow base e k v n xs) (h1 : ∀ u ∈ xs, u.oneCell' = true) : ∃ A c, v = .slice A n c ∧ n ≤ c ∧ Rd w A n k xs ∧ v.ownBlock = A.map (·.block) := by
  have hl := h.1
  rcases h.2 with ⟨rfl, rfl⟩ | ⟨g, cap, cur, rfl, hb, hg, hnc, hc, hs, ht⟩
  · exact ⟨none, 0, rfl, Nat.le_refl _, ⟨hl, h1, fun h => absurd h (by omega)⟩, rfl⟩
  · exact ⟨_, cap, rfl, hnc, ⟨hl, h1, fun _ => ⟨_, rfl, h.cells (g := g) rfl⟩⟩, rfl⟩

/-- append(s[:i], make(T, q)...) where there is no room: a new row. -/
theorem run_grow_zeros_k {P : Program} (w : World) (t tn ty e : TypeId) (it : TypeInfo) (z : Value) (kn : IntKind) (k bytes : Nat) (ht : P.underlying t = some (.slice e)) (htn : P.underlying tn = some (.int kn)) (hi : P.info? e = some it)
    (hz : it.zero = some z) (hsz : it.size = k) (hby : it.bytes = bytes) (hzk : z.cells.size = k) (hk : 0 < k)
    (g i cap q : Nat) (x : Int) (hxq : x = (q : Int)) (cur : Array Value) (hg : Blk w g e cur (0, 0)) (hik : i * k ≤ cur.size) (h0 : 0 < q) (hlt : cap < i + q) (hb : (i + q) * bytes ≤ 140737488355328) (h63 : i + q ≤ 9223372036854775807) :
    ∃ (nc : Nat) (rest : List Value) (w1 : World), (Builtin.append_ #[t, tn] ty #[.slice (some ⟨g, 0, none⟩) i cap, .int .i64 x]).run P w = .ok (.slice (some ⟨w.heap.size, 0, none⟩) (i + q) nc) w1 ∧
      Blk w1 w.heap.size e (cur.toList.take (i * k) ++ rest).toArray (0, 0) ∧ rest.length = (nc - i) * k ∧ i + q ≤ nc ∧ nc ≤ maxLen ∧ Below w.heap.size w w1 ∧ w1.heap.size = w.heap.size + 1 := by
  subst hxq
  have hold : (Builtin.firstCells it.size i (.slice (some ⟨g, 0, none⟩) i cap)).run P w.drew = .ok (cur.toList.take (i * k)).toArray w.drew := by
    have hl := run_loadCells_list (P := P) w.drew ⟨g, 0, none⟩ (cur.toList.take (i * k)) (fun j v hj => by
      have hj' : j < i * k := by
        have := (List.getElem?_eq_some_iff.1 hj).1
        rw [List.length_take] at this
        omega
      rw [add0, World.cell?_drew, hg.cell j, ← hj, List.getElem?_take, if_pos hj']
      simp)
    rw [List.length_take, Array.length_toList, Nat.min_eq_left hik] at hl
    simp only [Builtin.firstCells, hsz]
    exact hl
  have hfit : Builtin.nextslicecap (i + q) cap * it.bytes ≤ 281474976710656 := growslice_fits hlt (by rw [hby]; exact hb)
  have hqb : q * bytes ≤ 140737488355328 := Nat.le_trans (Nat.mul_le_mul_right _ (by omega)) hb
  have hr := Lib.run_append_grow_zeros (P := P) w t tn ty e it z .i64 kn ht htn hi hz (some ⟨g, 0, none⟩) i cap (cur.toList.take (i * k)) hold q h0 (by rw [hsz]; exact hk) hlt (by omega) (by rw [hby]; omega) hfit
  have hge := grownCap_ge w (i + q) cap e
  refine ⟨_, (Builtin.zeroCells z.cells q ++ Builtin.zeroCells z.cells (grownCap w (i + q) cap e - (i + q))).toList, _, hr, ?_, ?_, hge, grownCap_le_maxLen w _ _ _ (by simp only [maxLen]; omega), ?_, by simp⟩
  · have : (cur.toList.take (i * k) ++ (Builtin.zeroCells z.cells q ++ Builtin.zeroCells z.cells (grownCap w (i + q) cap e - (i + q))).toList).toArray = (cur.toList.take (i * k)).toArray ++ Builtin.zeroCells z.cells q ++ Builtin.zeroCells z.cells (grownCap w (i + q) cap e - (i + q)) := by
      apply Array.toList_inj.1
      simp
    rw [this]
    exact Blk.new w.drew e _ (0, 0)
  · rw [Array.length_toList, Array.size_append, size_zeroCells, size_zeroCells, hzk, ← Nat.add_mul]
    congr 1
    omega
  · exact (Below.refl _ _).drew.alloc (Nat.le_refl _) _
end Go.Proofs.Ytjghkiphfpeocaa
