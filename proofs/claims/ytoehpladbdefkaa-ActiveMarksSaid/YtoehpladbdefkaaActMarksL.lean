/- ActiveMarks: the plain law; a list of active formatting and a row of its entries beside it. -/
import Derived.Test.YtoehpladbdefkaaActFrom1
import Derived.Test.YtoehpladbdefkaaActFrom2
import Derived.Test.YtoehpladbdefkaaActFrom3
import Derived.Test.YtoehpladbdefkaaActKnown
import Derived.Test.YtoehpladbdefkaaArgAct
import Derived.Test.YtoehpladbdefkaaKeep
namespace Go.Proofs.Ytoehpladbdefkaa
open Go.RowKit

section
variable {α : Type} {mk p : α → Bool}
theorem pushG_mem {l : List α} {x z : α} (h : z ∈ pushG mk p l x) : z ∈ l ∨ z = x := by
  unfold pushG at h
  rw [List.mem_append, List.mem_singleton] at h
  rcases h with h | h
  · split at h
    · unfold cutL at h
      rcases List.mem_append.1 h with h | h
      · exact .inl (List.mem_of_mem_take h)
      · exact .inl (List.mem_of_mem_drop h)
    · exact .inl h
  · exact .inr h
theorem push_behind (A : List α) (m x : α) (D : List α) (hm : mk m = true) (hD : ∀ z ∈ D, mk z = false) (hx : mk x = false) :
    ∃ D', pushG mk p (A ++ m :: D) x = A ++ m :: D' ∧ D'.length ≤ D.length + 1 ∧ ∀ z ∈ D', mk z = false := by
  have hput : ∀ D1 : List α, D1.length ≤ D.length → (∀ z ∈ D1, mk z = false) → ∃ D', (A ++ m :: D1) ++ [x] = A ++ m :: D' ∧ D'.length ≤ D.length + 1 ∧ ∀ z ∈ D', mk z = false := fun D1 h1 h2 =>
    ⟨D1 ++ [x], by simp, by simp; omega, fun z hz => by
      rcases List.mem_append.1 hz with h | h
      · exact h2 z h
      · simp at h; rw [h]; exact hx⟩
  unfold pushG
  rcases scanR_split mk p (A ++ m :: D).reverse 0 (-1) with ⟨_, h1⟩ | ⟨r1, y, r2, e, h1, h2, _, h4⟩
  · rw [h1, if_neg (by simp)]
    exact hput D (Nat.le_refl _) hD
  · rw [h4]
    simp only [Nat.zero_add, Int.toNat_natCast]
    split
    · have e' : (D.reverse ++ m :: A.reverse) = r1 ++ y :: r2 := by rw [← e]; simp
      obtain ⟨d2, hd, hr2⟩ : ∃ d2, D.reverse = r1 ++ y :: d2 ∧ r2 = d2 ++ m :: A.reverse := by
        rcases List.append_eq_append_iff.1 e' with ⟨c, rfl, hc⟩ | ⟨c, hc1, hc⟩
        · exfalso
          cases c with
          | nil => simp at hc; rw [hc.1, h2] at hm; cases hm
          | cons a c =>
            simp at hc
            have := h1 m (by rw [hc.1]; simp)
            rw [this] at hm; cases hm
        · cases c with
          | nil => simp at hc; rw [← hc.1, h2] at hm; cases hm
          | cons a c =>
            simp at hc
            obtain ⟨rfl, rfl⟩ := hc
            exact ⟨c, hc1, rfl⟩
      have hl : A ++ m :: D = (A ++ m :: d2.reverse) ++ y :: r1.reverse := by
        have : D = d2.reverse ++ y :: r1.reverse := by
          have := congrArg List.reverse hd
          simpa using this
        rw [this]; simp
      have hc : cutL (A ++ m :: D) r2.length = A ++ m :: (d2.reverse ++ r1.reverse) := by
        rw [hl]
        unfold cutL
        have hlen : (A ++ m :: d2.reverse).length = r2.length := by rw [hr2]; simp; omega
        rw [List.take_left' hlen, show r2.length + 1 = (A ++ m :: d2.reverse).length + 1 by rw [hlen], ← List.drop_drop, List.drop_left]
        simp
      rw [hc]
      have hdl : D.length = r1.length + d2.length + 1 := by
        have := congrArg List.length hd
        simp at this; omega
      refine hput _ (by simp; omega) (fun z hz => hD z ?_)
      have : z ∈ D.reverse := by
        rw [hd]
        simp at hz ⊢
        rcases hz with h | h
        · exact .inr (.inr h)
        · exact .inl h
      simpa using this
    · exact hput D (Nat.le_refl _) hD
theorem clear_behind (A : List α) (m : α) (D : List α) (hm : mk m = true) (hD : ∀ z ∈ D, mk z = false) : clearG mk (A ++ m :: D) = A := by
  have h : ∀ (r : List α), (∀ z ∈ r, mk z = false) → clearR mk (r ++ m :: A.reverse) = A.reverse := fun r hr => by
    induction r with
    | nil => simp [clearR, hm]
    | cons a r ih =>
      rw [List.cons_append, clearR, if_neg (by rw [hr a List.mem_cons_self]; decide)]
      exact ih (fun z hz => hr z (List.mem_cons_of_mem _ hz))
  unfold clearG
  rw [show (A ++ m :: D).reverse = D.reverse ++ m :: A.reverse by simp, h _ (fun z hz => hD z (List.mem_reverse.1 hz)), List.reverse_reverse]
end
def markZ : Z := (⟨true, 0, ⟨#[]⟩, none, 0, 0⟩, ⟨true, 0, ⟨#[]⟩, []⟩)
theorem find_mark (l : List Z) (name : ByteArray) : findZ (l ++ [markZ]) name = none := by unfold findZ; rw [List.reverse_append]; rfl
theorem from_mark (l : List Z) (pf : Int → Bool) : fromZ (stopZ pf) (l ++ [markZ]) = l.length + 1 := by
  unfold fromZ
  rw [List.reverse_append, List.reverse_singleton, List.singleton_append, fromR, if_pos (show stopZ pf markZ = true from rfl), List.length_reverse]
theorem from_yes (l : List Z) : fromZ (stopZ (fun _ => true)) l = l.length := by
  unfold fromZ
  rw [← List.length_reverse]
  cases l.reverse with
  | nil => rfl
  | cons z r => rw [fromR, if_pos (by simp [stopZ]), List.length_cons]
theorem from_no (l : List Z) (h : ∀ z ∈ l, mkZ z = false) : fromZ (stopZ (fun _ => false)) l = 0 := by
  unfold fromZ
  have : ∀ r : List Z, (∀ z ∈ r, mkZ z = false) → fromR (stopZ (fun _ => false)) r = 0 := fun r hr => by
    induction r with
    | nil => rfl
    | cons z r ih => rw [fromR, if_neg (by simp [stopZ, hr z List.mem_cons_self])]; exact ih (fun z hz => hr z (List.mem_cons_of_mem _ hz))
  exact this _ (fun z hz => h z (List.mem_reverse.1 hz))

/-! ### a row of entries beside the list -/
def LW (B : Nat) (w : World) (q : Nat) (l : List Z) (rv : Value) (r : List En) : Prop := ∃ p v, LAp p v B w q l ∧ w.ownsRow B 33 4 rv r.length (r.flatMap enc_entry) ∧ ∀ g, rv.ownBlock = some g → ¬ foot p v g ∧ g ≠ q
theorem LW.list {B : Nat} {w : World} {q : Nat} {l : List Z} {rv : Value} {r : List En} (h : LW B w q l rv r) : LA B w q l := let ⟨p, v, h, _⟩ := h; ⟨p, v, h⟩
theorem LW.le {B : Nat} {w : World} {q : Nat} {l : List Z} {rv : Value} {r : List En} (h : LW B w q l rv r) : B ≤ w.heap.size := h.list.le
theorem LW.row {B : Nat} {w : World} {q : Nat} {l : List Z} {rv : Value} {r : List En} (h : LW B w q l rv r) : w.ownsRow B 33 4 rv r.length (r.flatMap enc_entry) := let ⟨_, _, _, h, _⟩ := h; h
theorem LW.keep {B : Nat} {w w1 : World} {q : Nat} {l : List Z} {rv : Value} {r : List En} (h : LW B w q l rv r) (hb : Below w.heap.size w w1) : LW B w1 q l rv r := by
  obtain ⟨p, v, h1, h2, h3⟩ := h
  exact ⟨p, v, LAp.keep h1 hb, owns_but h2 (But.of_below hb) (S := fun _ => False) (fun _ _ h => h), h3⟩
theorem LW.new {B : Nat} {w : World} {q : Nat} {l : List Z} (h : LA B w q l) : LW B w q l (.slice none 0 0) [] := by
  obtain ⟨p, v, h⟩ := h
  exact ⟨p, v, h, World.ownsRow_nil _ _ _ _, fun g hg => by cases hg⟩
theorem LW.turn {p : Nat} {v v1 : Value} {B : Nat} {w w1 : World} {q : Nat} {l l1 : List Z} {rv : Value} {r : List En} (h : LAp p v B w q l) (hr : w.ownsRow B 33 4 rv r.length (r.flatMap enc_entry)) (ha : ∀ g, rv.ownBlock = some g → ¬ foot p v g ∧ g ≠ q)
    (h1 : LAp p v1 B w1 q l1) (hb : But (foot p v) w w1) (hg : Grown w v v1) : LW B w1 q l1 rv r ∧ Below B w w1 := by
  refine ⟨⟨p, v1, h1, owns_but hr hb (fun g hg => (ha g hg).1), fun g hgb => ⟨fun hk => ?_, (ha g hgb).2⟩⟩, hb.below h.2.2.2.1 h.2.2.2.2.2.1⟩
  rcases hg.foot p hk with hf | hf
  · exact (ha g hgb).1 hf
  · have := owns_lt hr hgb; omega
theorem LW.onRow {B : Nat} {w w1 : World} {q n : Nat} {l : List Z} {rv rv' : Value} {r r' : List En} {xs : List Value} (h : LW B w q l rv r) (hr : w1.ownsRow B 33 4 rv' n xs) (hn : n = r'.length) (hx : xs = r'.flatMap enc_entry) (hg : w.grownBy w1 rv.ownBlock)
    (ha : rv'.ownBlock = rv.ownBlock ∨ rv'.ownBlock = some w.heap.size) (hap : ∀ z ∈ l, ∀ ad, z.1.a = some ad → rv.ownBlock ≠ some ad.block) : LW B w1 q l rv' r' ∧ Below B w w1 := by
  subst hn hx
  obtain ⟨p, v, ⟨h1, h2, h3, h4, h5, h6, h7⟩, h8, h9⟩ := h
  have hb : But (fun k => rv.ownBlock = some k) w w1 := But.of_grown hg (fun k hk => hk)
  refine ⟨⟨p, v, ⟨h1.but hb (fun e => (h9 q e).2 rfl), h2.but hb (fun k hk e => (h9 k e).1 hk), h3, h4, h5, Nat.le_trans h6 hb.size, fun z hz => ?_⟩, hr, fun g hg => ?_⟩, hb.below (fun k hk => (h8.lt k hk).1) h6⟩
  · have e := h7 z hz
    exact ⟨e.marker, e.h, e.name, e.attrs.but hb (fun ad ea hk => hap z hz ad ea hk), e.nil, e.few, fun ad ea => ⟨Nat.lt_of_lt_of_le (e.apart ad ea).1 hb.size, (e.apart ad ea).2⟩⟩
  · rcases ha with e | e
    · exact h9 g (e ▸ hg)
    · rw [e] at hg
      cases hg
      exact ⟨fun hk => by have := h2.lt hk; omega, by have := h1.lt; omega⟩
end Go.Proofs.Ytoehpladbdefkaa
