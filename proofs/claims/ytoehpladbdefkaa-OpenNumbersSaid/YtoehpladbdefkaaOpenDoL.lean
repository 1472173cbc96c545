/- arbourlaw18.do: what it leaves. -/
import Derived.Test.YtoehpladbdefkaaOpenTl
namespace Go.Proofs.Ytoehpladbdefkaa
open Go.RowKit Go.BigFrame

/-- The list, the row beside it, and blocks that neither of them owns. -/
def LG (G : Nat → Prop) (B : Nat) (w : World) (q : Nat) (l : List It) (mv : Value) (m : List It) : Prop :=
  ∃ p v, Blk w q 105 #[.pointer (some ⟨p, 0, none⟩)] (0, 0) ∧ Pile_item w p v l ∧ ¬ foot p v q ∧ (∀ k, foot p v k → B ≤ k) ∧ B ≤ q ∧ B ≤ w.heap.size ∧
    w.ownsRow B 50 4 mv m.length (m.flatMap enc_item) ∧ (∀ g, mv.ownBlock = some g → ¬ foot p v g ∧ g ≠ q) ∧ (∀ k, G k → k < w.heap.size ∧ ¬ foot p v k)
theorem LG.lm {G : Nat → Prop} {B : Nat} {w : World} {q : Nat} {l m : List It} {mv : Value} (h : LG G B w q l mv m) : LM B w q l mv m := by
  obtain ⟨p, v, h1, h2, h3, h4, h5, h6, h7, h8, _⟩ := h
  exact ⟨p, v, h1, h2, h3, h4, h5, h6, h7, h8⟩
theorem LG.ofLM {B : Nat} {w : World} {q : Nat} {l m : List It} {mv : Value} (h : LM B w q l mv m) : LG (fun _ => False) B w q l mv m := by
  obtain ⟨p, v, h1, h2, h3, h4, h5, h6, h7, h8⟩ := h
  exact ⟨p, v, h1, h2, h3, h4, h5, h6, h7, h8, fun _ h => h.elim⟩
/-- What is laid down anew is not the list's. -/
theorem LG.laid {B : Nat} {w w1 : World} {q : Nat} {l m : List It} {mv : Value} (h : LM B w q l mv m) (hb : Below w.heap.size w w1) (hlt : w.heap.size < w1.heap.size) : LG (fun k => k = w.heap.size) B w1 q l mv m := by
  have hk := h.keep hb
  obtain ⟨p, v, h1, h2, h3, h4, h5, h6, h7, h8⟩ := h
  refine ⟨p, v, h1.keep hb, h2.keep hb, h3, h4, h5, Nat.le_trans h6 hb.size, hk.row, h8, fun k hk => ?_⟩
  subst hk
  exact ⟨hlt, fun hf => by have := h2.lt hf; omega⟩
theorem LG.keep {G : Nat → Prop} {B : Nat} {w w1 : World} {q : Nat} {l m : List It} {mv : Value} (h : LG G B w q l mv m) (hb : Below w.heap.size w w1) : LG G B w1 q l mv m := by
  have hk := h.lm.keep hb
  obtain ⟨p, v, h1, h2, h3, h4, h5, h6, h7, h8, h9⟩ := h
  exact ⟨p, v, h1.keep hb, h2.keep hb, h3, h4, h5, Nat.le_trans h6 hb.size, hk.row, h8, fun k hk => ⟨Nat.lt_of_lt_of_le (h9 k hk).1 hb.size, (h9 k hk).2⟩⟩
theorem LG.onList {G : Nat → Prop} {B : Nat} {w : World} {q : Nat} {l m : List It} {mv : Value} (h : LG G B w q l mv m) :
    ∃ F, LF_item F w q l ∧ (∀ k, F k → B ≤ k ∧ k < w.heap.size) ∧ (∀ k, G k → k < w.heap.size ∧ ¬ F k) ∧ (∀ w1 l1 F1, (∀ k, F1 k → F k ∨ w.heap.size ≤ k) → LF_item F1 w1 q l1 → But F w w1 → LG G B w1 q l1 mv m ∧ Below B w w1) := by
  obtain ⟨p, v, h1, h2, h3, h4, h5, h6, h7, h8, h9⟩ := h
  refine ⟨foot p v, ⟨p, v, h1, h2, h3, fun _ h => h⟩, fun k hk => ⟨h4 k hk, h2.lt hk⟩, h9, fun w1 l1 F1 hF hlf hb => ⟨?_, hb.below h4 h6⟩⟩
  obtain ⟨p', v', g1, g2, g3, g4⟩ := hlf
  refine ⟨p', v', g1, g2, g3, fun k hk => ?_, h5, Nat.le_trans h6 hb.size, owns_but h7 hb (fun g hg => (h8 g hg).1), fun g hg => ⟨fun hk => ?_, (h8 g hg).2⟩, fun k hk => ⟨Nat.lt_of_lt_of_le (h9 k hk).1 hb.size, fun hf => ?_⟩⟩
  · rcases hF k (g4 k hk) with h | h
    · exact h4 k h
    · omega
  · rcases hF g (g4 g hk) with h | h
    · exact (h8 g hg).1 h
    · have := (h7.lt g hg).2
      omega
  · rcases hF k (g4 k hf) with h | h
    · exact (h9 k hk).2 h
    · have := (h9 k hk).1
      omega
theorem LG.prefix {G : Nat → Prop} {B : Nat} {w : World} {q n c : Nat} {l m m' : List It} {A : Option Addr} (h : LG G B w q l (.slice A n c) m) (hp : m' <+: m) : LG G B w q l (.slice A m'.length c) m' := by
  obtain ⟨p, v, h1, h2, h3, h4, h5, h6, h7, h8, h9⟩ := h
  have hk : m' = m.take m'.length := List.prefix_iff_eq_take.1 hp
  have hlen : m'.length ≤ m.length := hp.length_le
  have hown : ∀ g, (Value.slice A m'.length c).ownBlock = some g → (Value.slice A n c).ownBlock = some g := fun g hg => by
    cases A with
    | none => cases hg
    | some a => exact hg
  refine ⟨p, v, h1, h2, h3, h4, h5, h6, ?_, fun g hg => h8 g (hown g hg), h9⟩
  rcases h7.2 with ⟨hv, hx⟩ | ⟨g, cap, cur, hv, hr⟩
  · injection hv with e1 e2 e3
    subst e1 e2 e3
    have hm : m = [] := by
      have h0 := row_len encOk_item m
      have h2 := h7.1
      have h1 : m.length = 0 := by first | omega | simpa using h2
      exact List.length_eq_zero_iff.1 h1
    subst hm
    have : m' = [] := List.length_eq_zero_iff.1 (by simpa using hlen)
    subst this
    exact h7
  · injection hv with e1 e2 e3
    subst e1 e2 e3
    have ht := own_take encOk_item m'.length hlen h7
    rw [← hk] at ht
    exact ht
theorem LG.anew {G : Nat → Prop} {B : Nat} {w w1 : World} {q n : Nat} {l m m' : List It} {mv mv' : Value} {xs : List Value} (h : LG G B w q l mv m) (hr : w1.ownsRow w.heap.size 50 4 mv' n xs) (hb : Below w.heap.size w w1) (hn : n = m'.length) (hx : xs = m'.flatMap enc_item) : LG G B w1 q l mv' m' := by
  subst hn hx
  obtain ⟨p, v, h1, h2, h3, h4, h5, h6, h7, h8, h9⟩ := h
  refine ⟨p, v, h1.keep hb, h2.keep hb, h3, h4, h5, Nat.le_trans h6 hb.size, owns_base hr (fun g hg => Nat.le_trans h6 (hr.lt g hg).1), fun g hg => ?_, fun k hk => ⟨Nat.lt_of_lt_of_le (h9 k hk).1 hb.size, (h9 k hk).2⟩⟩
  have hge := (hr.lt g hg).1
  exact ⟨fun hk => by have := h2.lt hk; omega, by have := h1.lt; omega⟩
theorem LM.rdI {B : Nat} {w : World} {q n c : Nat} {l m : List It} {A : Option Addr} (h : LM B w q l (.slice A n c) m) : RdI w A n m ∧ n ≤ c := by
  obtain ⟨A2, c2, e, hc, hrd, _⟩ := own_rd h.row (row_one encOk_item m)
  injection e with e1 e2 e3
  subst e1 e2 e3
  exact ⟨⟨rfl, hrd⟩, hc⟩
theorem LM.cap {B : Nat} {w : World} {q n c : Nat} {l m : List It} {A : Option Addr} (h : LM B w q l (.slice A n c) m) : n ≤ c := h.rdI.2
theorem LG.rdI {G : Nat → Prop} {B : Nat} {w : World} {q n c : Nat} {l m : List It} {A : Option Addr} (h : LG G B w q l (.slice A n c) m) : RdI w A n m ∧ n ≤ c := h.lm.rdI
theorem LG.cap {G : Nat → Prop} {B : Nat} {w : World} {q n c : Nat} {l m : List It} {A : Option Addr} (h : LG G B w q l (.slice A n c) m) : n ≤ c := h.lm.rdI.2
theorem LG.list {G : Nat → Prop} {B : Nat} {w : World} {q : Nat} {l m : List It} {mv : Value} (h : LG G B w q l mv m) : LB_item B w q l := h.lm.list
theorem LG.le {G : Nat → Prop} {B : Nat} {w : World} {q : Nat} {l m : List It} {mv : Value} (h : LG G B w q l mv m) : B ≤ w.heap.size := h.lm.le
theorem LG.cells {G : Nat → Prop} {B : Nat} {w : World} {q n c : Nat} {l m : List It} {A : Option Addr} (h : LG G B w q l (.slice A n c) m) {j : Nat} {y : It} (hy : m[j]? = some y) :
    ∃ g, A = some ⟨g, 0, none⟩ ∧ n = m.length ∧ w.cell? ⟨g, j * 4, none⟩ = some (.int .i64 y.h) ∧ w.cell? ⟨g, j * 4 + 1, none⟩ = some (.int .i64 y.ns) ∧ w.cell? ⟨g, j * 4 + 2, none⟩ = some (.string y.name) ∧ w.cell? ⟨g, j * 4 + 3, none⟩ = some (.slice y.a y.n y.c) := h.lm.cells hy
theorem LG.row {G : Nat → Prop} {B : Nat} {w : World} {q : Nat} {l m : List It} {mv : Value} (h : LG G B w q l mv m) : w.ownsRow B 50 4 mv m.length (m.flatMap enc_item) := h.lm.row
theorem cutL_mem {α : Type} {l : List α} {j : Nat} {z : α} (h : z ∈ cutL l j) : z ∈ l := by
  unfold cutL at h
  rcases List.mem_append.1 h with h | h
  · exact List.mem_of_mem_take h
  · exact List.mem_of_mem_drop h
theorem rd_zero (w : World) (ad : Addr) : Rd w (some ad) 0 4 [] := ⟨rfl, by simp, fun h => absurd h (by omega)⟩
theorem set_split {α : Type} (l : List α) (j : Nat) (x : α) (hj : j < l.length) : l.set j x = (l.take j ++ [x]) ++ l.drop (j + 1) := by
  rw [List.set_eq_take_append_cons_drop, if_pos hj]; simp
theorem set_mem {α : Type} {l : List α} {j : Nat} {x z : α} (h : z ∈ l.set j x) : z = x ∨ z ∈ l := (List.mem_or_eq_of_mem_set h).symm
theorem putL_mem {α : Type} {l : List α} {j : Nat} {x z : α} (h : z ∈ putL l j x) : z = x ∨ z ∈ l := by
  unfold putL at h
  rcases List.mem_append.1 h with h | h
  · exact .inr (List.mem_of_mem_take h)
  · rcases List.mem_cons.1 h with h | h
    · exact .inl h
    · exact .inr (List.mem_of_mem_drop h)
theorem owns_keep {w w1 : World} {base : Nat} {e : TypeId} {k n : Nat} {v : Value} {xs : List Value} (h : w.ownsRow base e k v n xs) (hb : Below w.heap.size w w1) : w1.ownsRow base e k v n xs := owns_but h (But.of_below hb) (S := fun _ => False) (fun _ _ h => h)
/-- One element laid in a block of its own still reads behind an append to another one's row. -/
theorem rd_grown {W w6 : World} {y : It} {a b : Nat} (hb : Blk W b 50 (enc_item y).toArray (0, 0)) (g : W.grownBy w6 (some a)) (hne : ¬ b = a) : Rd w6 (some ⟨b, 0, none⟩) 1 4 (enc_item y) :=
  rd_one_item (hb.but (But.of_grown g (S := fun k => k = a) (fun k hk => by
    have hk : some a = some k := hk
    cases hk; rfl)) hne)
/-- The ask in its box, and the blocks that stay. -/
structure BoxG (G : Nat → Prop) (w W : World) (x : As) : Prop where
  blk : Blk W w.heap.size 53 (enc_as x).toArray (0, 0)
  kept : ∀ k, G k → W.heap[k]? = w.heap[k]?
  lo : ∀ k, G k → k < w.heap.size
  le : w.heap.size ≤ W.heap.size
theorem BoxG.keep {G : Nat → Prop} {w W W1 : World} {x : As} (h : BoxG G w W x) (hb : Below W.heap.size W W1) : BoxG G w W1 x :=
  ⟨h.blk.keep hb, fun k hk => (hb.block k (Nat.lt_of_lt_of_le (h.lo k hk) h.le)).trans (h.kept k hk), h.lo, Nat.le_trans h.le hb.size⟩
theorem var_bg {G : Nat → Prop} {w W : World} {x : As} (h : BoxG G w W x) : W.cell? ⟨w.heap.size, 0, none⟩ = some (.int .i64 x.kind) ∧ W.cell? ⟨w.heap.size, 1, none⟩ = some (.int .i64 x.h) ∧ W.cell? ⟨w.heap.size, 2, none⟩ = some (.int .i64 x.n) ∧ W.cell? ⟨w.heap.size, 3, none⟩ = some (.int .i64 x.m) ∧ W.cell? ⟨w.heap.size, 4, none⟩ = some (.bool x.svg) := var_as h.blk
/-- Behind the switch of do. -/
structure DoAt (G : Nat → Prop) (B : Nat) (w wx : World) (q : Nat) (l : List It) (A : Option Addr) (n c k : Nat) (x : As) : Prop where
  lm : LG G B wx q l (.slice A n c) l
  bare : ∀ y ∈ l, bareI y
  len : n = l.length
  small : n ≤ k + 1
  box : BoxG G w wx x
  below : Below B w wx
theorem DoAt.keep {G : Nat → Prop} {B : Nat} {w wx w1 : World} {q n c k : Nat} {l : List It} {A : Option Addr} {x : As} (h : DoAt G B w wx q l A n c k x) (hb : Below wx.heap.size wx w1) : DoAt G B w w1 q l A n c k x :=
  ⟨h.lm.keep hb, h.bare, h.len, h.small, h.box.keep hb, h.below.trans (hb.mono h.lm.le)⟩
def DoOut (G : Nat → Prop) (B : Nat) (w : World) (q k : Nat) (e : Ending) (w' : World) : Prop := ∃ A n c l, e = .returned (.tuple #[.slice A n c, .bool true]) ∧ LG G B w' q l (.slice A n c) l ∧ (∀ y ∈ l, bareI y) ∧ n = l.length ∧ n ≤ k + 1 ∧ Below B w w' ∧ (∀ k, G k → w'.heap[k]? = w.heap[k]?)
/-- What is known of the list while do runs: it, and the row beside it; the ask in its box. -/
structure Play (G : Nat → Prop) (B : Nat) (w : World) (q : Nat) (l : List It) (A : Option Addr) (n c : Nat) (x : As) (F : Nat → Prop) (W : World) : Prop where
  b : Below w.heap.size w W
  box : BoxG G w W x
  list : LF_item F W q l
  lm : LG G B W q l (.slice A n c) l
  turn : ∀ w1 l1 F1, (∀ k, F1 k → F k ∨ W.heap.size ≤ k) → LF_item F1 w1 q l1 → But F W w1 → LG G B w1 q l1 (.slice A n c) l ∧ Below B w w1 ∧ BoxG G w w1 x
theorem Play.keep {G : Nat → Prop} {B : Nat} {w W W1 : World} {q n c : Nat} {l : List It} {A : Option Addr} {x : As} {F : Nat → Prop} (h : Play G B w q l A n c x F W) (hb : Below W.heap.size W W1) : Play G B w q l A n c x F W1 :=
  ⟨below_then h.b h.b.size hb, h.box.keep hb, h.list.keep hb, h.lm.keep hb, fun w1 l1 F1 hF1 hl hbt => h.turn w1 l1 F1 (fun k hk => (hF1 k hk).imp id (fun h => Nat.le_trans hb.size h)) hl (but_then hb hbt)⟩
theorem Play.start {G : Nat → Prop} {B : Nat} {w : World} {q n c : Nat} {l : List It} {A : Option Addr} {x : As} (h : LG G B w q l (.slice A n c) l) : ∃ F, Play G B w q l A n c x F (w.alloc (.cells (enc_as x).toArray 53)) ∧ (∀ k, F k → k < w.heap.size) := by
  obtain ⟨F, hF, hb, hG, hT⟩ := h.onList
  have ba : Below w.heap.size w (w.alloc (.cells (enc_as x).toArray 53)) := (Below.refl _ _).alloc (Nat.le_refl _) _
  have hbx := Blk.new w 53 (enc_as x).toArray (0, 0)
  have hlt : w.heap.size < (w.alloc (.cells (enc_as x).toArray 53)).heap.size := by simp
  refine ⟨F, ⟨ba, ⟨hbx, fun k hk => ba.block k (hG k hk).1, fun k hk => (hG k hk).1, Nat.le_of_lt hlt⟩, hF.keep ba, h.keep ba, fun w1 l1 F1 hF1 hl hbt => ?_⟩, fun k hk => (hb k hk).2⟩
  have h2 := hT w1 l1 F1 (fun k hk => (hF1 k hk).imp id (fun h => Nat.le_trans ba.size h)) hl (but_then ba hbt)
  exact ⟨h2.1, h2.2, ⟨hbx.but hbt (fun hk => by have := (hb _ hk).2; omega), fun k hk => (hbt.block k (Nat.lt_trans (hG k hk).1 hlt) (hG k hk).2).trans (ba.block k (hG k hk).1), fun k hk => (hG k hk).1, Nat.le_trans (Nat.le_of_lt hlt) hbt.size⟩⟩
end Go.Proofs.Ytoehpladbdefkaa
