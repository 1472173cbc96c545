/- Chapter 3: rows of bytes and rows of runes in memory; what the library's tables hold. -/
import Derived.Test.YtojpedgfllgbcaaDoorUtf1
import Derived.Test.YtojpedgfllgbcaaDoorShelf
import Derived.Lib.LaidU8
import Derived.Deep.QuietTactic
import Derived.BigQuiet
namespace Go.Proofs.YtojpedgfllgbcaaDoor
open Go.RowKit

def enc_b : UInt8 → List Value := fun x => [.int .u8 x.toNat]
def enc_r : Int → List Value := fun x => [.int .i32 x]
theorem encOk_b : EncOk enc_b 1 := fun x => ⟨rfl, fun u hu => List.all_eq_true.1 (show (enc_b x).all (fun u => u.oneCell') = true from rfl) u hu⟩
theorem encOk_r : EncOk enc_r 1 := fun x => ⟨rfl, fun u hu => List.all_eq_true.1 (show (enc_r x).all (fun u => u.oneCell') = true from rfl) u hu⟩
theorem row_b (l : List UInt8) : l.flatMap enc_b = Lib.byteCells l := by
  induction l with
  | nil => rfl
  | cons a l ih => rw [List.flatMap_cons, ih]; rfl
theorem info_rune : (Tryd.prog.info? 21).map (fun i => (i.zero, i.size, i.bytes)) = some (some (.int .i32 0), 1, 4) := by kernel_rfl
theorem info_byteU : (Tryd.prog.info? 5).map (fun i => (i.zero, i.size, i.bytes)) = some (some (.int .u8 0), 1, 1) := by kernel_rfl
/-- What is read of the library's own variables. -/
structure Tabs (w : World) : Prop where
  tab : Lib.Utf8Tabs 0 1 w
  lax : ∃ m : Int, w.cell? ⟨2, 0, none⟩ = some (.int .i64 m)
theorem Tabs.keep {w w' : World} (h : Tabs w) (hb : Below w.heap.size w w') : Tabs w' := by
  refine ⟨Utf8Tabs_below h.tab hb, ?_⟩
  obtain ⟨m, hm⟩ := h.lax
  exact ⟨m, cell_keep hb hm⟩
/-- A row of bytes, of runes, to be read. -/
def RdB (w : World) (A : Option Addr) (c : Nat) (l : List UInt8) : Prop := Rd w A l.length 1 (l.flatMap enc_b) ∧ l.length ≤ c ∧ c ≤ maxLen
def RdR (w : World) (A : Option Addr) (c : Nat) (l : List Int) : Prop := Rd w A l.length 1 (l.flatMap enc_r) ∧ l.length ≤ c ∧ c ≤ maxLen
theorem RdB.keep {w w' : World} {A : Option Addr} {c : Nat} {l : List UInt8} (h : RdB w A c l) (hb : Below w.heap.size w w') : RdB w' A c l := ⟨h.1.keep hb, h.2⟩
theorem RdR.keep {w w' : World} {A : Option Addr} {c : Nat} {l : List Int} (h : RdR w A c l) (hb : Below w.heap.size w w') : RdR w' A c l := ⟨h.1.keep hb, h.2⟩
theorem RdB.cell {w : World} {A : Option Addr} {c : Nat} {l : List UInt8} (h : RdB w A c l) (h0 : 0 < l.length) : ∃ b o, A = some ⟨b, o, none⟩ ∧ ∀ j x, l[j]? = some x → w.cell? ⟨b, o + j, none⟩ = some (.int .u8 x.toNat) := by
  obtain ⟨ad, rfl, hc⟩ := h.1.2.2 h0
  obtain ⟨b, o, sp⟩ := ad
  have hx : ∀ j x, l[j]? = some x → w.cell? ((⟨b, o, sp⟩ : Addr).add j) = some (.int .u8 x.toNat) := fun j x hj => hc j _ (by have := row_at encOk_b l j 0 x _ hj rfl; simpa using this)
  have h00 := hx 0 (l[0]'h0) (List.getElem?_eq_getElem h0)
  have e0 : (⟨b, o, sp⟩ : Addr).add 0 = ⟨b, o, sp⟩ := by simp [Addr.add]
  rw [e0] at h00
  obtain rfl := cell_spot h00
  refine ⟨b, o, rfl, fun j x hj => ?_⟩
  have := hx j x hj
  rwa [Addr.add_lit] at this
theorem RdR.cell {w : World} {A : Option Addr} {c : Nat} {l : List Int} (h : RdR w A c l) (h0 : 0 < l.length) : ∃ b o, A = some ⟨b, o, none⟩ ∧ ∀ j x, l[j]? = some x → w.cell? ⟨b, o + j, none⟩ = some (.int .i32 x) := by
  obtain ⟨ad, rfl, hc⟩ := h.1.2.2 h0
  obtain ⟨b, o, sp⟩ := ad
  have hx : ∀ j x, l[j]? = some x → w.cell? ((⟨b, o, sp⟩ : Addr).add j) = some (.int .i32 x) := fun j x hj => hc j _ (by have := row_at encOk_r l j 0 x _ hj rfl; simpa using this)
  have h00 := hx 0 (l[0]'h0) (List.getElem?_eq_getElem h0)
  have e0 : (⟨b, o, sp⟩ : Addr).add 0 = ⟨b, o, sp⟩ := by simp [Addr.add]
  rw [e0] at h00
  obtain rfl := cell_spot h00
  refine ⟨b, o, rfl, fun j x hj => ?_⟩
  have := hx j x hj
  rwa [Addr.add_lit] at this
/-- A row read off its cells. -/
theorem RdB.of {w : World} {b o c : Nat} {l : List UInt8} (hc : l.length ≤ c) (hm : c ≤ maxLen) (h : ∀ j x, l[j]? = some x → w.cell? ⟨b, o + j, none⟩ = some (.int .u8 x.toNat)) : RdB w (some ⟨b, o, none⟩) c l := by
  refine ⟨rd_of encOk_b (by omega) rfl fun i y hy j u hu => ?_, hc, hm⟩
  have hj : j = 0 := by
    have := (List.getElem?_eq_some_iff.1 hu).1
    simp [enc_b] at this
    exact this
  subst hj
  simp [enc_b] at hu
  subst hu
  rw [Addr.add_lit]
  simpa using h i y hy
theorem RdB.nil (w : World) (A : Option Addr) (c : Nat) (hm : c ≤ maxLen) : RdB w A c [] := ⟨⟨rfl, by simp, fun h => absurd h (by simp)⟩, by simp, hm⟩
theorem RdR.nil (w : World) (A : Option Addr) (c : Nat) (hm : c ≤ maxLen) : RdR w A c [] := ⟨⟨rfl, by simp, fun h => absurd h (by simp)⟩, by simp, hm⟩
/-- What stands behind the first n. -/
theorem RdB.drop {w : World} {b o c : Nat} {l : List UInt8} (h : RdB w (some ⟨b, o, none⟩) c l) (n : Nat) (hn : n ≤ l.length) (A : Option Addr) (hA : n < l.length → A = some ⟨b, o + n, none⟩) : RdB w A (c - n) (l.drop n) := by
  have h1 := h.2.1
  have h2 := h.2.2
  by_cases hl : n < l.length
  · rw [hA hl]
    obtain ⟨b', o', e, hc⟩ := h.cell (by omega)
    cases e
    refine RdB.of (by rw [List.length_drop]; omega) (by omega) fun j x hj => ?_
    rw [List.getElem?_drop] at hj
    have := hc _ _ hj
    rwa [← Nat.add_assoc] at this
  · have e : l.drop n = [] := List.drop_eq_nil_of_le (by omega)
    rw [e]
    exact RdB.nil w A _ (by omega)
theorem RdB.take {w : World} {A : Option Addr} {c : Nat} {l : List UInt8} (h : RdB w A c l) (n : Nat) (hn : n ≤ l.length) : RdB w A c (l.take n) := by
  have h1 := h.1.take n hn
  have h2 := h.2.1
  refine ⟨?_, by rw [List.length_take]; omega, h.2.2⟩
  rw [List.length_take, Nat.min_eq_left hn, ← row_take encOk_b]
  exact h1
theorem RdR.take {w : World} {A : Option Addr} {c : Nat} {l : List Int} (h : RdR w A c l) (n : Nat) (hn : n ≤ l.length) : RdR w A c (l.take n) := by
  have h1 := h.1.take n hn
  have h2 := h.2.1
  refine ⟨?_, by rw [List.length_take]; omega, h.2.2⟩
  rw [List.length_take, Nat.min_eq_left hn, ← row_take encOk_r]
  exact h1
/-- A row of runes that was made. -/
def OwnR (w : World) (base : Nat) (v : Value) (l : List Int) : Prop := w.ownsRow base 21 1 v l.length (l.flatMap enc_r)
theorem OwnR.rd {w : World} {base : Nat} {v : Value} {l : List Int} (h : OwnR w base v l) : ∃ A c, v = .slice A l.length c ∧ RdR w A c l := by
  obtain ⟨A, c, hv, hc, hr, _⟩ := own_rd h (row_one encOk_r l)
  refine ⟨A, c, hv, hr, hc, ?_⟩
  rcases h.2 with ⟨e, _⟩ | ⟨g, cap, cur, e, _, _, _, h2, _⟩
  · rw [hv, Value.slice.injEq] at e; rw [e.2.2]; exact Nat.zero_le _
  · rw [hv, Value.slice.injEq] at e; rw [e.2.2]; exact h2
theorem OwnR.keep {w w' : World} {base : Nat} {v : Value} {l : List Int} (h : OwnR w base v l) (hb : Below w.heap.size w w') : OwnR w' base v l := owns_but h (But.of_below hb) (S := fun _ => False) (fun _ _ h => h)
/-- The bytes as a text. -/
theorem S_get (l : List UInt8) (j : Nat) (x : UInt8) (h : l[j]? = some x) : (S l).get! j = x := by
  obtain ⟨hj, hx⟩ := List.getElem?_eq_some_iff.1 h
  show (S l).data[j]! = x
  have : (S l).data = l.toArray := rfl
  rw [this]
  simp [hj, hx]
end Go.Proofs.YtojpedgfllgbcaaDoor
