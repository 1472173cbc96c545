/- Worlds that keep all but some blocks; a pile: a block that holds a slice, and the slice's own row. No program in sight. -/
import Derived.Test.YtjghkiphfpeocaaRow
namespace Go.Proofs.Ytjghkiphfpeocaa
open Go.RowKit

/-- All blocks but those of S are as they were. -/
structure But (S : Nat → Prop) (w w' : World) : Prop where
  os : w'.os = w.os
  tape : w'.tape = w.tape
  output : w'.output = w.output
  size : w.heap.size ≤ w'.heap.size
  block : ∀ k, k < w.heap.size → ¬ S k → w'.heap[k]? = w.heap[k]?
theorem But.refl (S : Nat → Prop) (w : World) : But S w w := ⟨rfl, rfl, rfl, Nat.le_refl _, fun _ _ _ => rfl⟩
theorem But.of_below {S : Nat → Prop} {w w' : World} (h : Below w.heap.size w w') : But S w w' := ⟨h.os, h.tape, h.output, h.size, fun k hk _ => h.block k hk⟩
theorem But.of_grown {S : Nat → Prop} {w w' : World} {r : Option Nat} (h : w.grownBy w' r) (hr : ∀ k, r = some k → S k) : But S w w' :=
  ⟨h.os, h.tape, h.output, h.size, fun k hk hn => h.block k hk (fun e => hn (hr k e.symm))⟩
theorem But.trans {S S1 : Nat → Prop} {w w1 w2 : World} (h : But S w w1) (h1 : But S1 w1 w2) (hS : ∀ k, S1 k → S k ∨ w.heap.size ≤ k) : But S w w2 :=
  ⟨h1.os.trans h.os, h1.tape.trans h.tape, h1.output.trans h.output, Nat.le_trans h.size h1.size, fun k hk hn =>
    (h1.block k (Nat.lt_of_lt_of_le hk h.size) (fun hs => by rcases hS k hs with h | h; exact hn h; omega)).trans (h.block k hk hn)⟩
theorem But.setCell {S : Nat → Prop} {w w1 : World} (h : But S w w1) (a : Addr) (u : Value) (ha : S a.block ∨ w.heap.size ≤ a.block) : But S w (w1.setCell a u) :=
  ⟨h.os, h.tape, h.output, by simpa [World.setCell] using h.size, fun k hk hn => (Below.heap_setCell w1 a u k (fun e => by rcases ha with h | h; exact hn (e ▸ h); omega)).trans (h.block k hk hn)⟩
theorem But.alloc {S : Nat → Prop} {w w1 : World} (h : But S w w1) (o : Obj) : But S w (w1.alloc o) := h.trans (S1 := fun _ => False) (But.of_below ((Below.refl _ _).alloc (Nat.le_refl _) o)) (fun _ h => h.elim)
theorem But.drew {S : Nat → Prop} {w w1 : World} (h : But S w w1) : But S w w1.drew := ⟨h.os, h.tape, h.output, h.size, h.block⟩
theorem But.drewN {S : Nat → Prop} {w w1 : World} (h : But S w w1) (n : Nat) : But S w (w1.drewN n) := ⟨h.os, h.tape, h.output, h.size, h.block⟩
theorem But.mono {S S1 : Nat → Prop} {w w1 : World} (h : But S w w1) (hS : ∀ k, S k → S1 k ∨ w.heap.size ≤ k) : But S1 w w1 := ⟨h.os, h.tape, h.output, h.size, fun k hk hn => h.block k hk (fun hs => by rcases hS k hs with h | h; exact hn h; omega)⟩
theorem But.below {S : Nat → Prop} {w w1 : World} {B : Nat} (h : But S w w1) (hS : ∀ k, S k → B ≤ k) (hB : B ≤ w.heap.size) : Below B w w1 :=
  ⟨h.os, h.tape, h.output, h.size, fun k hk => h.block k (by omega) (fun hs => by have := hS k hs; omega)⟩
theorem But.heap {S : Nat → Prop} {w w1 : World} (h : But S w w1) {k : Nat} {o : Obj} (hk : w.heap[k]? = some o) (hn : ¬ S k) : w1.heap[k]? = some o := (h.block k (Array.getElem?_eq_some_iff.1 hk).1 hn).trans hk
theorem Blk.but {S : Nat → Prop} {w w1 : World} {g : Nat} {t : TypeId} {cs : Array Value} {fr : Nat × Nat} (hb : Blk w g t cs fr) (h : But S w w1) (hn : ¬ S g) : Blk w1 g t cs fr := h.heap hb hn
theorem owns_but {S : Nat → Prop} {w w1 : World} {base : Nat} {e : TypeId} {k n : Nat} {v : Value} {xs : List Value} (ho : w.ownsRow base e k v n xs) (h : But S w w1) (hn : ∀ g, v.ownBlock = some g → ¬ S g) : w1.ownsRow base e k v n xs := by
  refine ⟨ho.1, ?_⟩
  rcases ho.2 with hl | ⟨g, cap, cur, hv, hb, hg, hr⟩
  · exact .inl hl
  · exact .inr ⟨g, cap, cur, hv, hb, h.heap hg (hn g (by rw [hv]; rfl)), hr⟩
theorem owns_lt {w : World} {base : Nat} {e : TypeId} {k n : Nat} {v : Value} {xs : List Value} (ho : w.ownsRow base e k v n xs) {g : Nat} (hg : v.ownBlock = some g) : g < w.heap.size := (ho.lt g hg).2
theorem owns_base {w : World} {base base' : Nat} {e : TypeId} {k n : Nat} {v : Value} {xs : List Value} (ho : w.ownsRow base e k v n xs) (hb : ∀ g, v.ownBlock = some g → base' ≤ g) : w.ownsRow base' e k v n xs := by
  refine ⟨ho.1, ?_⟩
  rcases ho.2 with hl | ⟨g, cap, cur, hv, _, hr⟩
  · exact .inl hl
  · exact .inr ⟨g, cap, cur, hv, hb g (by rw [hv]; rfl), hr⟩
theorem below_But {S : Nat → Prop} {w w1 w2 : World} (h : Below w.heap.size w w1) (h1 : But S w1 w2) : But S w w2 := (But.of_below (S := S) h).trans h1 (fun _ h => .inl h)

/-! ### rows of things -/
section
variable {α : Type} {enc : α → List Value} {K : Nat}
def EncOk (enc : α → List Value) (K : Nat) : Prop := ∀ x, (enc x).length = K ∧ ∀ u ∈ enc x, u.oneCell' = true
theorem row_len (h : EncOk enc K) (l : List α) : (l.flatMap enc).length = l.length * K := by
  induction l with
  | nil => simp
  | cons a l ih => rw [List.flatMap_cons, List.length_append, ih, (h a).1, List.length_cons, Nat.add_mul]; omega
theorem row_one (h : EncOk enc K) (l : List α) : ∀ u ∈ l.flatMap enc, u.oneCell' = true := by
  intro u hu
  obtain ⟨x, _, hx⟩ := List.mem_flatMap.1 hu
  exact (h x).2 u hx
theorem row_take (h : EncOk enc K) (l : List α) (i : Nat) : (l.flatMap enc).take (i * K) = (l.take i).flatMap enc := by
  induction l generalizing i with
  | nil => simp
  | cons a l ih =>
    cases i with
    | zero => simp
    | succ i =>
      rw [List.flatMap_cons, List.take_succ_cons, List.flatMap_cons, List.take_append, (h a).1, List.take_of_length_le (by rw [(h a).1, Nat.add_mul]; omega), ← ih i]
      congr 2
      rw [Nat.add_mul]; omega
theorem row_drop (h : EncOk enc K) (l : List α) (i : Nat) : (l.flatMap enc).drop (i * K) = (l.drop i).flatMap enc := by
  induction l generalizing i with
  | nil => simp
  | cons a l ih =>
    cases i with
    | zero => simp
    | succ i =>
      rw [List.flatMap_cons, List.drop_succ_cons, List.drop_append, (h a).1, List.drop_eq_nil_of_le (by rw [(h a).1, Nat.add_mul]; omega), List.nil_append, ← ih i]
      congr 1
      rw [Nat.add_mul]; omega
/-- The cells of the thing at a place. -/
theorem row_at (h : EncOk enc K) (l : List α) (i j : Nat) (x : α) (u : Value) (hi : l[i]? = some x) (hj : (enc x)[j]? = some u) : (l.flatMap enc)[i * K + j]? = some u := by
  induction l generalizing i with
  | nil => simp at hi
  | cons a l ih =>
    cases i with
    | zero =>
      simp at hi
      subst hi
      rw [List.flatMap_cons, Nat.zero_mul, Nat.zero_add, List.getElem?_append_left (List.getElem?_eq_some_iff.1 hj).1]
      exact hj
    | succ i =>
      rw [List.flatMap_cons, List.getElem?_append_right (by rw [(h a).1, Nat.add_mul]; omega), (h a).1, show (i + 1) * K + j - K = i * K + j by rw [Nat.add_mul]; omega]
      exact ih i (by simpa using hi)
end

/-! ### a pile -/
def putL {α : Type} (l : List α) (i : Nat) (x : α) : List α := l.take i ++ x :: l.drop i
def cutL {α : Type} (l : List α) (i : Nat) : List α := l.take i ++ l.drop (i + 1)
theorem putL_len {α : Type} (l : List α) (i : Nat) (x : α) (hi : i ≤ l.length) : (putL l i x).length = l.length + 1 := by simp [putL]; omega
theorem cutL_len {α : Type} (l : List α) (i : Nat) (hi : i < l.length) : (cutL l i).length = l.length - 1 := by simp [cutL]; omega
theorem putL_end {α : Type} (l : List α) (x : α) : putL l l.length x = l ++ [x] := by simp [putL]
theorem cut_put {α : Type} (l : List α) (i : Nat) (x : α) (hi : i ≤ l.length) : cutL (putL l i x) i = l := by
  unfold cutL putL
  rw [List.take_append_of_le_length (by simp; omega), List.take_of_length_le (l := l.take i) (by simp; omega), List.drop_append, List.length_take, Nat.min_eq_left hi, List.drop_eq_nil_of_le (by simp; omega), show i + 1 - i = 1 by omega]
  simp

/-- The one at a place, if it is one. -/
def getL {α : Type} (l : List α) (i : Int) : Option α := if 0 ≤ i then l[i.toNat]? else none
theorem getL_isSome {α : Type} (l : List α) (i : Int) : (getL l i).isSome = (decide (0 ≤ i) && decide (i < (l.length : Int))) := by
  unfold getL
  by_cases h : 0 ≤ i
  · rw [if_pos h]
    by_cases h' : i < (l.length : Int)
    · rw [List.getElem?_eq_getElem (by omega)]; simp [h, h']
    · rw [List.getElem?_eq_none (by omega)]; simp [h, h']
  · rw [if_neg h]; simp [h]
theorem getL_some {α : Type} {l : List α} {i : Int} {x : α} (h : getL l i = some x) : ∃ j : Nat, i = (j : Int) ∧ j < l.length ∧ l[j]? = some x := by
  unfold getL at h
  split at h
  · exact ⟨i.toNat, by omega, (List.getElem?_eq_some_iff.1 h).1, h⟩
  · cases h
theorem getL_nat {α : Type} (l : List α) (j : Nat) : getL l (j : Int) = l[j]? := by simp [getL]
theorem getL_none {α : Type} {l : List α} {i : Int} (h : getL l i = none) : i < 0 ∨ (l.length : Int) ≤ i := by
  unfold getL at h
  split at h
  · have := List.getElem?_eq_none_iff.1 h; omega
  · omega
theorem getL_last {α : Type} (l : List α) : getL l ((l.length : Int) - 1) = l.getLast? := by
  cases l with
  | nil => rfl
  | cons a l => rw [show (((a :: l).length : Nat) : Int) - 1 = (((a :: l).length - 1 : Nat) : Int) by simp, getL_nat, List.getLast?_eq_getElem?]

structure Stk {α : Type} (st e : TypeId) (K : Nat) (enc : α → List Value) (w : World) (p : Nat) (v : Value) (l : List α) : Prop where
  cell : Blk w p st #[v] (0, 0)
  row : w.ownsRow 0 e K v l.length (l.flatMap enc)
  apart : v.ownBlock ≠ some p
/-- The blocks of a pile. -/
def foot (p : Nat) (v : Value) : Nat → Prop := fun k => k = p ∨ v.ownBlock = some k
section
variable {α : Type} {st e : TypeId} {K : Nat} {enc : α → List Value} {w w1 : World} {p : Nat} {v : Value} {l : List α}
theorem Stk.lt (h : Stk st e K enc w p v l) {k : Nat} (hk : foot p v k) : k < w.heap.size := by
  rcases hk with rfl | hk
  · exact h.cell.lt
  · exact owns_lt h.row hk
theorem Stk.but {S : Nat → Prop} (h : Stk st e K enc w p v l) (hb : But S w w1) (hn : ∀ k, foot p v k → ¬ S k) : Stk st e K enc w1 p v l :=
  ⟨h.cell.but hb (hn p (.inl rfl)), owns_but h.row hb (fun g hg => hn g (.inr hg)), h.apart⟩
theorem Stk.keep (h : Stk st e K enc w p v l) (hb : Below w.heap.size w w1) : Stk st e K enc w1 p v l := h.but (S := fun _ => False) (But.of_below hb) (fun _ _ h => h)
end
/-- The footprint grows by new blocks alone. -/
def Grown (w : World) (v v' : Value) : Prop := v'.ownBlock = v.ownBlock ∨ ∃ k, w.heap.size ≤ k ∧ v'.ownBlock = some k
theorem Grown.refl (w : World) (v : Value) : Grown w v v := .inl rfl
theorem Grown.trans {w w1 : World} {v v1 v2 : Value} (h : Grown w v v1) (hw : w.heap.size ≤ w1.heap.size) (h1 : Grown w1 v1 v2) : Grown w v v2 := by
  rcases h1 with e | ⟨k, hk, e⟩
  · rcases h with e' | ⟨k, hk, e'⟩
    · exact .inl (e.trans e')
    · exact .inr ⟨k, hk, e.trans e'⟩
  · exact .inr ⟨k, Nat.le_trans hw hk, e⟩
theorem Grown.foot {w : World} {v v' : Value} (h : Grown w v v') (p : Nat) {k : Nat} (hk : foot p v' k) : foot p v k ∨ w.heap.size ≤ k := by
  rcases hk with rfl | hk
  · exact .inl (.inl rfl)
  · rcases h with e | ⟨j, hj, e⟩
    · exact .inl (.inr (e ▸ hk))
    · rw [e] at hk; cases hk; exact .inr hj

theorem stk_stored {α : Type} {st e : TypeId} {K : Nat} {enc : α → List Value} {w1 : World} {p : Nat} {v0 v1 : Value} {l1 : List α} {xs : List Value} {n : Nat} (hp : Blk w1 p st #[v0] (0, 0)) (hr : w1.ownsRow 0 e K v1 n xs) (hne : v1.ownBlock ≠ some p)
    (hn : n = l1.length) (hx : xs = l1.flatMap enc) : Stk st e K enc (w1.setCell ⟨p, 0, none⟩ v1) p v1 l1 := by
  subst hn hx
  refine ⟨?_, ?_, hne⟩
  · have := hp.set 0 v1
    simpa using this
  · exact owns_but hr ((But.refl (fun k => k = p) w1).setCell ⟨p, 0, none⟩ v1 (.inl rfl)) (fun g hg e => hne (by rw [hg, e]))
/-- Things of one cell: one is set. -/
theorem row_set1 {α : Type} {enc : α → List Value} {val : α → Value} (h : ∀ x, enc x = [val x]) (l : List α) (j : Nat) (x : α) : (l.flatMap enc).set j (val x) = (l.set j x).flatMap enc := by
  have e : ∀ l : List α, l.flatMap enc = l.map val := fun l => by induction l with
    | nil => rfl
    | cons a l ih => rw [List.flatMap_cons, h, ih]; rfl
  rw [e, e, List.map_set]
theorem own_set1 {w : World} {g : Nat} {e : TypeId} {xs rest : List Value} {j : Nat} {u : Value} (hb : Blk w g e (xs ++ rest).toArray (0, 0)) (hj : j < xs.length) : Blk (w.setCell ⟨g, j, none⟩ u) g e (xs.set j u ++ rest).toArray (0, 0) := by
  have h := hb.set j u
  rw [List.setIfInBounds_toArray, List.set_append_left _ _ hj] at h
  exact h
theorem same_step {α : Type} {l1 l2 : List α} {j : Nat} {x y : α} (h : l1.take j = l2.take j) (h1 : l1[j]? = some x) (h2 : l2[j]? = some y) (hxy : x = y) : l1.take (j + 1) = l2.take (j + 1) := by
  rw [List.take_add_one, List.take_add_one, h, h1, h2, hxy]
theorem same_end {α : Type} {l1 l2 : List α} {j : Nat} (h : l1.take j = l2.take j) (h1 : l1.length ≤ j) (h2 : l2.length = l1.length) : l1 = l2 := by
  rwa [List.take_of_length_le h1, List.take_of_length_le (by omega)] at h

theorem bytes_ne {x y : ByteArray} (h : ¬ x = y) : (x.toList == y.toList) = false := by
  rw [beq_eq_false_iff_ne]
  intro e
  rw [Lib.toList_data, Lib.toList_data] at e
  exact h (ByteArray.ext (Array.toList_inj.1 e))
theorem Rd.take {w : World} {A : Option Addr} {n k : Nat} {xs : List Value} (h : Rd w A n k xs) (m : Nat) (hm : m ≤ n) : Rd w A m k (xs.take (m * k)) := by
  refine ⟨?_, fun u hu => h.2.1 u (List.mem_of_mem_take hu), fun h0 => ?_⟩
  · rw [List.length_take, h.1]
    exact Nat.min_eq_left (Nat.mul_le_mul_right _ hm)
  · obtain ⟨ad, e, hc⟩ := h.2.2 (by omega)
    refine ⟨ad, e, fun j u hu => hc j u ?_⟩
    rw [List.getElem?_take] at hu
    split at hu
    · exact hu
    · cases hu
end Go.Proofs.Ytjghkiphfpeocaa
