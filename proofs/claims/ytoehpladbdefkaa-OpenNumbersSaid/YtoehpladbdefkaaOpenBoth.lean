/- Open elements in a list, and beside it a row of the same ones. -/
import Derived.Test.YtoehpladbdefkaaOpenSame
import Derived.Test.YtoehpladbdefkaaOpenEl
namespace Go.Proofs.Ytoehpladbdefkaa
open Go.RowKit

def LM (B : Nat) (w : World) (q : Nat) (l : List It) (mv : Value) (m : List It) : Prop :=
  ∃ p v, Blk w q 105 #[.pointer (some ⟨p, 0, none⟩)] (0, 0) ∧ Pile_item w p v l ∧ ¬ foot p v q ∧ (∀ k, foot p v k → B ≤ k) ∧ B ≤ q ∧ B ≤ w.heap.size ∧
    w.ownsRow B 50 4 mv m.length (m.flatMap enc_item) ∧ (∀ g, mv.ownBlock = some g → ¬ foot p v g ∧ g ≠ q)
theorem LM.list {B : Nat} {w : World} {q : Nat} {l m : List It} {mv : Value} (h : LM B w q l mv m) : LB_item B w q l := by
  obtain ⟨p, v, h1, h2, h3, h4, h5, h6, _⟩ := h
  exact ⟨p, v, h1, h2, h3, h4, h5, h6⟩
theorem LM.le {B : Nat} {w : World} {q : Nat} {l m : List It} {mv : Value} (h : LM B w q l mv m) : B ≤ w.heap.size := h.list.le
theorem LM.row {B : Nat} {w : World} {q : Nat} {l m : List It} {mv : Value} (h : LM B w q l mv m) : w.ownsRow B 50 4 mv m.length (m.flatMap enc_item) := by
  obtain ⟨p, v, _, _, _, _, _, _, h7, _⟩ := h
  exact h7
theorem LM.keep {B : Nat} {w w1 : World} {q : Nat} {l m : List It} {mv : Value} (h : LM B w q l mv m) (hb : Below w.heap.size w w1) : LM B w1 q l mv m := by
  obtain ⟨p, v, h1, h2, h3, h4, h5, h6, h7, h8⟩ := h
  exact ⟨p, v, h1.keep hb, h2.keep hb, h3, h4, h5, Nat.le_trans h6 hb.size, owns_but h7 (But.of_below hb) (S := fun _ => False) (fun _ _ h => h), h8⟩
theorem LM.onList {B : Nat} {w : World} {q : Nat} {l m : List It} {mv : Value} (h : LM B w q l mv m) :
    ∃ F, LF_item F w q l ∧ (∀ k, F k → B ≤ k ∧ k < w.heap.size) ∧ (∀ w1 l1 F1, (∀ k, F1 k → F k ∨ w.heap.size ≤ k) → LF_item F1 w1 q l1 → But F w w1 → LM B w1 q l1 mv m ∧ Below B w w1) := by
  obtain ⟨p, v, h1, h2, h3, h4, h5, h6, h7, h8⟩ := h
  refine ⟨foot p v, ⟨p, v, h1, h2, h3, fun _ h => h⟩, fun k hk => ⟨h4 k hk, h2.lt hk⟩, fun w1 l1 F1 hF hlf hb => ⟨?_, hb.below h4 h6⟩⟩
  obtain ⟨p', v', g1, g2, g3, g4⟩ := hlf
  refine ⟨p', v', g1, g2, g3, fun k hk => ?_, h5, Nat.le_trans h6 hb.size, owns_but h7 hb (fun g hg => (h8 g hg).1), fun g hg => ⟨fun hk => ?_, (h8 g hg).2⟩⟩
  · rcases hF k (g4 k hk) with h | h
    · exact h4 k h
    · omega
  · rcases hF g (g4 g hk) with h | h
    · exact (h8 g hg).1 h
    · have := owns_lt h7 hg; omega
theorem LM.onRow {B : Nat} {w w1 : World} {q n : Nat} {l m m' : List It} {mv mv' : Value} {xs : List Value} (h : LM B w q l mv m) (hr : w1.ownsRow B 50 4 mv' n xs) (hn : n = m'.length) (hx : xs = m'.flatMap enc_item) (hg : w.grownBy w1 mv.ownBlock)
    (ha : mv'.ownBlock = mv.ownBlock ∨ mv'.ownBlock = some w.heap.size) : LM B w1 q l mv' m' ∧ Below B w w1 := by
  subst hn hx
  obtain ⟨p, v, h1, h2, h3, h4, h5, h6, h7, h8⟩ := h
  have hb : But (fun k => mv.ownBlock = some k) w w1 := But.of_grown hg (fun k hk => hk)
  refine ⟨⟨p, v, h1.but hb (fun e => (h8 q e).2 rfl), h2.but hb (fun k hk e => (h8 k e).1 hk), h3, h4, h5, Nat.le_trans h6 hb.size, hr, fun g hg => ?_⟩, hb.below (fun k hk => (h7.lt k hk).1) h6⟩
  rcases ha with e | e
  · exact h8 g (e ▸ hg)
  · rw [e] at hg
    cases hg
    exact ⟨fun hk => by have := h2.lt hk; omega, by have := h1.lt; omega⟩
/-- One element in a block of its own, to be read. -/
theorem rd_one_item {w : World} {b : Nat} {x : It} (h : Blk w b 50 (enc_item x).toArray (0, 0)) : Rd w (some ⟨b, 0, none⟩) 1 4 (enc_item x) :=
  ⟨rfl, (encOk_item x).2, fun _ => ⟨_, rfl, fun j u hu => by rw [add0, h.cell j, List.getElem?_toArray]; exact hu⟩⟩
theorem LM.new {B : Nat} {w : World} {q : Nat} {l : List It} (h : LB_item B w q l) : LM B w q l (.slice none 0 0) [] := by
  obtain ⟨p, v, h1, h2, h3, h4, h5, h6⟩ := h
  exact ⟨p, v, h1, h2, h3, h4, h5, h6, World.ownsRow_nil _ _ _ _, fun g hg => by cases hg⟩
/-- Of a row: the cells of the one at a place. -/
theorem LM.at {B : Nat} {w : World} {q : Nat} {l m : List It} {mv : Value} (h : LM B w q l mv m) {j : Nat} {y : It} (hy : m[j]? = some y) :
    ∃ g c, mv = .slice (some ⟨g, 0, none⟩) m.length c ∧ ∀ k u, (enc_item y)[k]? = some u → w.cell? ⟨g, j * 4 + k, none⟩ = some u := by
  have hj := (List.getElem?_eq_some_iff.1 hy).1
  obtain ⟨g, cap, rest, hv, _, hbk, _, _, _⟩ := own_parts h.row (by omega)
  refine ⟨g, cap, hv, fun k u hu => ?_⟩
  rw [hbk.cell]
  have hr := row_at encOk_item m j k y u hy hu
  simp only [List.getElem?_toArray]
  rw [List.getElem?_append_left (List.getElem?_eq_some_iff.1 hr).1]
  exact hr

theorem pushM (B : Nat) (w : World) (q : Nat) (l m : List It) (mv : Value) (x : It) (h : LM B w q l mv m) (hsz : l.length ≤ 1000000) :
    Calls Try.prog 37 #[.pointer (some ⟨q, 0, none⟩), val_item x] w fun e w' => e = .returned (.tuple #[]) ∧ LM B w' q (l ++ [x]) mv m ∧ Below B w w' := by
  obtain ⟨F, hF, hb, hT⟩ := h.onList
  refine (pushF_item F w q l x hF (by omega)).mono ?_
  rintro e w' ⟨he, h1, h2⟩
  have := hT _ _ _ (fun k hk => hk) h1 h2
  exact ⟨he, this.1, this.2⟩
theorem implyM (B : Nat) (w : World) (q : Nat) (l m : List It) (mv : Value) (b : ByteArray) (h : LM B w q l mv m) :
    Calls Try.prog 42 #[.pointer (some ⟨q, 0, none⟩), .string b] w fun e w' => e = .returned (.tuple #[]) ∧ LM B w' q (trim (implyP b) l) mv m ∧ Below B w w' := by
  obtain ⟨F, hF, hb, hT⟩ := h.onList
  refine (imply_item F w q l b hF).mono ?_
  rintro e w' ⟨he, h1, h2⟩
  have := hT _ _ _ (fun k hk => .inl hk) h1 h2
  exact ⟨he, this.1, this.2⟩
theorem thoroughM (B : Nat) (w : World) (q : Nat) (l m : List It) (mv : Value) (h : LM B w q l mv m) :
    Calls Try.prog 43 #[.pointer (some ⟨q, 0, none⟩)] w fun e w' => e = .returned (.tuple #[]) ∧ LM B w' q (trim thoroughP l) mv m ∧ Below B w w' := by
  obtain ⟨F, hF, hb, hT⟩ := h.onList
  refine (thorough_item F w q l hF).mono ?_
  rintro e w' ⟨he, h1, h2⟩
  have := hT _ _ _ (fun k hk => .inl hk) h1 h2
  exact ⟨he, this.1, this.2⟩
/-- Names that a call lays down ahead of it. -/
theorem rd_names_but {F : Nat → Prop} {w w1 : World} {names : List ByteArray} {e : TypeId} (hF : ∀ k, F k → k < w.heap.size) (h : But F (w.alloc (.cells (strs names).toArray e)) w1) : Rd w1 (some ⟨w.heap.size, 0, none⟩) names.length 1 (strs names) := by
  have hk : Blk (w.alloc (.cells (strs names).toArray e)) w.heap.size e (strs names).toArray (0, 0) := Blk.new w _ _ _
  have hk' := hk.but h (fun hf => by have := hF _ hf; omega)
  exact ⟨by simp [strs], fun u hu => by obtain ⟨x, _, rfl⟩ := List.mem_map.1 hu; rfl, fun _ => ⟨_, rfl, fun j u hu => by rw [add0, hk'.cell j, List.getElem?_toArray]; exact hu⟩⟩
theorem clearM (B : Nat) (w : World) (q : Nat) (l m : List It) (mv : Value) (names : List ByteArray) (n : Nat) (hn : n = names.length) (hlen : names.length ≤ 100) (h : LM B w q l mv m) :
    Calls Try.prog 44 #[.pointer (some ⟨q, 0, none⟩), .slice (some ⟨w.heap.size, 0, none⟩) n n] (w.alloc (.cells (strs names).toArray 9)) fun e w' => e = .returned (.tuple #[]) ∧ LM B w' q (trim (clearP names) l) mv m ∧ Below B w w' := by
  subst hn
  have ba : Below w.heap.size w (w.alloc (.cells (strs names).toArray 9)) := (Below.refl _ _).alloc (Nat.le_refl _) _
  obtain ⟨F, hF, hb, _⟩ := h.onList
  obtain ⟨F, hF, hb, hT⟩ : ∃ F, LF_item F (w.alloc (.cells (strs names).toArray 9)) q l ∧ (∀ k, F k → k < w.heap.size) ∧ (∀ w1 l1 F1, (∀ k, F1 k → F k) → LF_item F1 w1 q l1 → But F (w.alloc (.cells (strs names).toArray 9)) w1 → LM B w1 q l1 mv m ∧ Below B w w1) := by
    obtain ⟨F, hF, hb, hT⟩ := h.onList
    exact ⟨F, hF.keep ba, fun k hk => (hb k hk).2, fun w1 l1 F1 hF1 hlf hbt => hT w1 l1 F1 (fun k hk => .inl (hF1 k hk)) hlf (below_But ba hbt)⟩
  refine (clear_item F _ q l _ _ names hF (fun w' hw' => rd_names_but hb hw') (by omega)).mono ?_
  rintro e w' ⟨he, h1, h2⟩
  have := hT _ _ _ (fun k hk => hk) h1 h2
  exact ⟨he, this.1, this.2⟩
end Go.Proofs.Ytoehpladbdefkaa
