/- A pile of int all of whose blocks are B or younger: the methods once more, the slice out of sight. -/
import Derived.Test.YtafinbcmelpieaaSameInt
namespace Go.Proofs.Ytafinbcmelpieaa
open Go.RowKit

def PX_int (B : Nat) (w : World) (p : Nat) (l : List Int) : Prop := ∃ v, Pile_int w p v l ∧ (∀ k, foot p v k → B ≤ k) ∧ B ≤ w.heap.size
theorem PX_int.keep {B : Nat} {w w1 : World} {p : Nat} {l : List Int} (h : PX_int B w p l) (hb : Below w.heap.size w w1) : PX_int B w1 p l := by
  obtain ⟨v, hp, hf, hB⟩ := h
  exact ⟨v, hp.keep hb, hf, Nat.le_trans hB hb.size⟩
theorem PX_int.le {B : Nat} {w : World} {p : Nat} {l : List Int} (h : PX_int B w p l) : B ≤ w.heap.size := let ⟨_, _, _, hB⟩ := h; hB
theorem PX_int.len {B : Nat} {w : World} {p : Nat} {l : List Int} (h : PX_int B w p l) : l.length ≤ maxLen := by
  obtain ⟨v, hp, _, _⟩ := h
  rcases hp.row.2 with ⟨_, h0⟩ | ⟨g, cap, cur, _, _, _, hc, hm, _⟩
  · rw [h0]; exact Nat.zero_le _
  · omega
theorem PX_int.of {B : Nat} {w w1 : World} {p : Nat} {v v1 : Value} {l1 : List Int} (h : Pile_int w1 p v1 l1) (hf : ∀ k, foot p v k → B ≤ k) (hB : B ≤ w.heap.size) (hb : But (foot p v) w w1) (hg : Grown w v v1) : PX_int B w1 p l1 ∧ Below B w w1 :=
  ⟨⟨v1, h, fun k hk => by rcases hg.foot p hk with h | h; exact hf k h; omega, Nat.le_trans hB hb.size⟩, hb.below hf hB⟩

theorem newB_int (B : Nat) (w : World) (hB : B ≤ w.heap.size) :
    Calls Try.prog 23 #[] w fun e w' => e = .returned (.pointer (some ⟨w.heap.size, 0, none⟩)) ∧ PX_int B w' w.heap.size [] ∧ Below w.heap.size w w' := by
  refine (new_int w).mono ?_
  rintro e w' ⟨he, hp, hb⟩
  refine ⟨he, ⟨_, hp, fun k hk => ?_, Nat.le_trans hB hb.size⟩, hb⟩
  rcases hk with rfl | hk
  · exact hB
  · cases hk
theorem lenB_int (B : Nat) (w : World) (p : Nat) (l : List Int) (h : PX_int B w p l) :
    Calls Try.prog 26 #[.pointer (some ⟨p, 0, none⟩)] w fun e w' => e = .returned (.int .i64 (l.length : Int)) ∧ w = w' := let ⟨v, hp, _, _⟩ := h; len_int w p v l hp
theorem atB_int (B : Nat) (w : World) (p : Nat) (l : List Int) (i : Int) (h : PX_int B w p l) :
    Calls Try.prog 27 #[.pointer (some ⟨p, 0, none⟩), .int .i64 i] w fun e w' => e = .returned (.tuple #[(getL l i).elim (.int .i64 0) val_int, .bool (getL l i).isSome]) ∧ w = w' := let ⟨v, hp, _, _⟩ := h; at_int w p v l i hp
theorem topB_int (B : Nat) (w : World) (p : Nat) (l : List Int) (h : PX_int B w p l) :
    Calls Try.prog 58 #[.pointer (some ⟨p, 0, none⟩)] w fun e w' => e = .returned (.tuple #[(l.getLast?).elim (.int .i64 0) val_int, .bool (l.getLast?).isSome]) ∧ w = w' := by
  have hl := h.len
  obtain ⟨v, hp, _, _⟩ := h
  exact top_int w p v l (by simpa [maxLen] using hl) hp
theorem pushB_int (B : Nat) (w : World) (p : Nat) (l : List Int) (x : Int) (h : PX_int B w p l) (hsz : (l.length + 1) * 8 ≤ 140737488355328) :
    Calls Try.prog 24 #[.pointer (some ⟨p, 0, none⟩), val_int x] w fun e w' => e = .returned (.tuple #[]) ∧ PX_int B w' p (l ++ [x]) ∧ Below B w w' := by
  obtain ⟨v, hp, hf, hB⟩ := h
  refine (push_int w p v l x hp hsz).mono ?_
  rintro e w' ⟨v', he, h1, hb, hg⟩
  exact ⟨he, PX_int.of h1 hf hB hb hg⟩
theorem putB_int (B : Nat) (w : World) (p : Nat) (l : List Int) (i : Nat) (x : Int) (h : PX_int B w p l) (hi : i ≤ l.length) (hsz : (l.length + 1) * 8 ≤ 140737488355328) :
    Calls Try.prog 25 #[.pointer (some ⟨p, 0, none⟩), .int .i64 (i : Int), val_int x] w fun e w' => e = .returned (.bool true) ∧ PX_int B w' p (putL l i x) ∧ Below B w w' := by
  obtain ⟨v, hp, hf, hB⟩ := h
  refine (put_in_int w p v l i x hp hi hsz).mono ?_
  rintro e w' ⟨v', he, h1, hb, hg⟩
  exact ⟨he, PX_int.of h1 hf hB hb hg⟩
theorem putB_out_int (B : Nat) (w : World) (p : Nat) (l : List Int) (i : Int) (x : Int) (h : PX_int B w p l) (hi : i < 0 ∨ (l.length : Int) < i) :
    Calls Try.prog 25 #[.pointer (some ⟨p, 0, none⟩), .int .i64 i, val_int x] w fun e w' => e = .returned (.bool false) ∧ w = w' := let ⟨v, hp, _, _⟩ := h; put_out_int w p v l i x hp hi
theorem cutB_int (B : Nat) (w : World) (p : Nat) (l : List Int) (j : Nat) (x : Int) (h : PX_int B w p l) (hx : l[j]? = some x) :
    Calls Try.prog 28 #[.pointer (some ⟨p, 0, none⟩), .int .i64 (j : Int)] w fun e w' => e = .returned (.tuple #[val_int x, .bool true]) ∧ PX_int B w' p (cutL l j) ∧ Below B w w' := by
  obtain ⟨v, hp, hf, hB⟩ := h
  refine (cut_in_int w p v l j x hp hx).mono ?_
  rintro e w' ⟨v', he, h1, hb, hg⟩
  exact ⟨he, PX_int.of h1 hf hB hb (.inl hg)⟩
theorem cutB_out_int (B : Nat) (w : World) (p : Nat) (l : List Int) (i : Int) (h : PX_int B w p l) (hx : getL l i = none) :
    Calls Try.prog 28 #[.pointer (some ⟨p, 0, none⟩), .int .i64 i] w fun e w' => e = .returned (.tuple #[.int .i64 0, .bool false]) ∧ w = w' := let ⟨v, hp, _, _⟩ := h; cut_out_int w p v l i hp hx
theorem popB_int (B : Nat) (w : World) (p : Nat) (l : List Int) (x : Int) (h : PX_int B w p (l ++ [x])) :
    Calls Try.prog 32 #[.pointer (some ⟨p, 0, none⟩)] w fun e w' => e = .returned (.tuple #[val_int x, .bool true]) ∧ PX_int B w' p l ∧ Below B w w' := by
  obtain ⟨v, hp, hf, hB⟩ := h
  refine (pop_some_int w p v l x hp).mono ?_
  rintro e w' ⟨v', he, h1, hb, hg⟩
  exact ⟨he, PX_int.of h1 hf hB hb (.inl hg)⟩
theorem popB_none_int (B : Nat) (w : World) (p : Nat) (h : PX_int B w p []) :
    Calls Try.prog 32 #[.pointer (some ⟨p, 0, none⟩)] w fun e w' => e = .returned (.tuple #[.int .i64 0, .bool false]) ∧ w = w' := let ⟨v, hp, _, _⟩ := h; pop_none_int w p v hp
theorem allB_int (B : Nat) (w : World) (p : Nat) (l : List Int) (h : PX_int B w p l) (hsz : l.length * 8 ≤ 140737488355328) :
    Calls Try.prog 30 #[.pointer (some ⟨p, 0, none⟩)] w fun e w' => ∃ A c, e = .returned (.slice A l.length c) ∧ l.length ≤ c ∧ Rd w' A l.length 1 (l.flatMap enc_int) ∧ Below w.heap.size w w' ∧
      w'.ownsRow 0 3 1 (.slice A l.length c) l.length (l.flatMap enc_int) ∧ (∀ g, (Value.slice A l.length c).ownBlock = some g → w.heap.size ≤ g) := by
  obtain ⟨v, hp, hf, hB⟩ := h
  refine (all_int w p v l hp hsz).mono ?_
  rintro e w' ⟨v', he, h1, hb, hg⟩
  obtain ⟨A, c, rfl, hc, hr, _⟩ := own_rd h1 (row_one encOk_int l)
  exact ⟨A, c, he, hc, hr, hb, h1, hg⟩
end Go.Proofs.Ytafinbcmelpieaa
