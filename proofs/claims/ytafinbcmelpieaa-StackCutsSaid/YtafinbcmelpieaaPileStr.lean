/- A pile of str all of whose blocks are B or younger: the methods once more, the slice out of sight. -/
import Derived.Test.YtafinbcmelpieaaSameStr
namespace Go.Proofs.Ytafinbcmelpieaa
open Go.RowKit

def PX_str (B : Nat) (w : World) (p : Nat) (l : List ByteArray) : Prop := ∃ v, Pile_str w p v l ∧ (∀ k, foot p v k → B ≤ k) ∧ B ≤ w.heap.size
theorem PX_str.keep {B : Nat} {w w1 : World} {p : Nat} {l : List ByteArray} (h : PX_str B w p l) (hb : Below w.heap.size w w1) : PX_str B w1 p l := by
  obtain ⟨v, hp, hf, hB⟩ := h
  exact ⟨v, hp.keep hb, hf, Nat.le_trans hB hb.size⟩
theorem PX_str.le {B : Nat} {w : World} {p : Nat} {l : List ByteArray} (h : PX_str B w p l) : B ≤ w.heap.size := let ⟨_, _, _, hB⟩ := h; hB
theorem PX_str.len {B : Nat} {w : World} {p : Nat} {l : List ByteArray} (h : PX_str B w p l) : l.length ≤ maxLen := by
  obtain ⟨v, hp, _, _⟩ := h
  rcases hp.row.2 with ⟨_, h0⟩ | ⟨g, cap, cur, _, _, _, hc, hm, _⟩
  · rw [h0]; exact Nat.zero_le _
  · omega
theorem PX_str.of {B : Nat} {w w1 : World} {p : Nat} {v v1 : Value} {l1 : List ByteArray} (h : Pile_str w1 p v1 l1) (hf : ∀ k, foot p v k → B ≤ k) (hB : B ≤ w.heap.size) (hb : But (foot p v) w w1) (hg : Grown w v v1) : PX_str B w1 p l1 ∧ Below B w w1 :=
  ⟨⟨v1, h, fun k hk => by rcases hg.foot p hk with h | h; exact hf k h; omega, Nat.le_trans hB hb.size⟩, hb.below hf hB⟩

theorem newB_str (B : Nat) (w : World) (hB : B ≤ w.heap.size) :
    Calls Try.prog 34 #[] w fun e w' => e = .returned (.pointer (some ⟨w.heap.size, 0, none⟩)) ∧ PX_str B w' w.heap.size [] ∧ Below w.heap.size w w' := by
  refine (new_str w).mono ?_
  rintro e w' ⟨he, hp, hb⟩
  refine ⟨he, ⟨_, hp, fun k hk => ?_, Nat.le_trans hB hb.size⟩, hb⟩
  rcases hk with rfl | hk
  · exact hB
  · cases hk
theorem lenB_str (B : Nat) (w : World) (p : Nat) (l : List ByteArray) (h : PX_str B w p l) :
    Calls Try.prog 56 #[.pointer (some ⟨p, 0, none⟩)] w fun e w' => e = .returned (.int .i64 (l.length : Int)) ∧ w = w' := let ⟨v, hp, _, _⟩ := h; len_str w p v l hp
theorem atB_str (B : Nat) (w : World) (p : Nat) (l : List ByteArray) (i : Int) (h : PX_str B w p l) :
    Calls Try.prog 63 #[.pointer (some ⟨p, 0, none⟩), .int .i64 i] w fun e w' => e = .returned (.tuple #[(getL l i).elim (.string ByteArray.empty) val_str, .bool (getL l i).isSome]) ∧ w = w' := let ⟨v, hp, _, _⟩ := h; at_str w p v l i hp
theorem topB_str (B : Nat) (w : World) (p : Nat) (l : List ByteArray) (h : PX_str B w p l) :
    Calls Try.prog 62 #[.pointer (some ⟨p, 0, none⟩)] w fun e w' => e = .returned (.tuple #[(l.getLast?).elim (.string ByteArray.empty) val_str, .bool (l.getLast?).isSome]) ∧ w = w' := by
  have hl := h.len
  obtain ⟨v, hp, _, _⟩ := h
  exact top_str w p v l (by simpa [maxLen] using hl) hp
theorem pushB_str (B : Nat) (w : World) (p : Nat) (l : List ByteArray) (x : ByteArray) (h : PX_str B w p l) (hsz : (l.length + 1) * 16 ≤ 140737488355328) :
    Calls Try.prog 52 #[.pointer (some ⟨p, 0, none⟩), val_str x] w fun e w' => e = .returned (.tuple #[]) ∧ PX_str B w' p (l ++ [x]) ∧ Below B w w' := by
  obtain ⟨v, hp, hf, hB⟩ := h
  refine (push_str w p v l x hp hsz).mono ?_
  rintro e w' ⟨v', he, h1, hb, hg⟩
  exact ⟨he, PX_str.of h1 hf hB hb hg⟩
theorem putB_str (B : Nat) (w : World) (p : Nat) (l : List ByteArray) (i : Nat) (x : ByteArray) (h : PX_str B w p l) (hi : i ≤ l.length) (hsz : (l.length + 1) * 16 ≤ 140737488355328) :
    Calls Try.prog 53 #[.pointer (some ⟨p, 0, none⟩), .int .i64 (i : Int), val_str x] w fun e w' => e = .returned (.bool true) ∧ PX_str B w' p (putL l i x) ∧ Below B w w' := by
  obtain ⟨v, hp, hf, hB⟩ := h
  refine (put_in_str w p v l i x hp hi hsz).mono ?_
  rintro e w' ⟨v', he, h1, hb, hg⟩
  exact ⟨he, PX_str.of h1 hf hB hb hg⟩
theorem putB_out_str (B : Nat) (w : World) (p : Nat) (l : List ByteArray) (i : Int) (x : ByteArray) (h : PX_str B w p l) (hi : i < 0 ∨ (l.length : Int) < i) :
    Calls Try.prog 53 #[.pointer (some ⟨p, 0, none⟩), .int .i64 i, val_str x] w fun e w' => e = .returned (.bool false) ∧ w = w' := let ⟨v, hp, _, _⟩ := h; put_out_str w p v l i x hp hi
theorem cutB_str (B : Nat) (w : World) (p : Nat) (l : List ByteArray) (j : Nat) (x : ByteArray) (h : PX_str B w p l) (hx : l[j]? = some x) :
    Calls Try.prog 61 #[.pointer (some ⟨p, 0, none⟩), .int .i64 (j : Int)] w fun e w' => e = .returned (.tuple #[val_str x, .bool true]) ∧ PX_str B w' p (cutL l j) ∧ Below B w w' := by
  obtain ⟨v, hp, hf, hB⟩ := h
  refine (cut_in_str w p v l j x hp hx).mono ?_
  rintro e w' ⟨v', he, h1, hb, hg⟩
  exact ⟨he, PX_str.of h1 hf hB hb (.inl hg)⟩
theorem cutB_out_str (B : Nat) (w : World) (p : Nat) (l : List ByteArray) (i : Int) (h : PX_str B w p l) (hx : getL l i = none) :
    Calls Try.prog 61 #[.pointer (some ⟨p, 0, none⟩), .int .i64 i] w fun e w' => e = .returned (.tuple #[.string ByteArray.empty, .bool false]) ∧ w = w' := let ⟨v, hp, _, _⟩ := h; cut_out_str w p v l i hp hx
theorem popB_str (B : Nat) (w : World) (p : Nat) (l : List ByteArray) (x : ByteArray) (h : PX_str B w p (l ++ [x])) :
    Calls Try.prog 59 #[.pointer (some ⟨p, 0, none⟩)] w fun e w' => e = .returned (.tuple #[val_str x, .bool true]) ∧ PX_str B w' p l ∧ Below B w w' := by
  obtain ⟨v, hp, hf, hB⟩ := h
  refine (pop_some_str w p v l x hp).mono ?_
  rintro e w' ⟨v', he, h1, hb, hg⟩
  exact ⟨he, PX_str.of h1 hf hB hb (.inl hg)⟩
theorem popB_none_str (B : Nat) (w : World) (p : Nat) (h : PX_str B w p []) :
    Calls Try.prog 59 #[.pointer (some ⟨p, 0, none⟩)] w fun e w' => e = .returned (.tuple #[.string ByteArray.empty, .bool false]) ∧ w = w' := let ⟨v, hp, _, _⟩ := h; pop_none_str w p v hp
theorem allB_str (B : Nat) (w : World) (p : Nat) (l : List ByteArray) (h : PX_str B w p l) (hsz : l.length * 16 ≤ 140737488355328) :
    Calls Try.prog 55 #[.pointer (some ⟨p, 0, none⟩)] w fun e w' => ∃ A c, e = .returned (.slice A l.length c) ∧ l.length ≤ c ∧ Rd w' A l.length 1 (l.flatMap enc_str) ∧ Below w.heap.size w w' ∧
      w'.ownsRow 0 9 1 (.slice A l.length c) l.length (l.flatMap enc_str) ∧ (∀ g, (Value.slice A l.length c).ownBlock = some g → w.heap.size ≤ g) := by
  obtain ⟨v, hp, hf, hB⟩ := h
  refine (all_str w p v l hp hsz).mono ?_
  rintro e w' ⟨v', he, h1, hb, hg⟩
  obtain ⟨A, c, rfl, hc, hr, _⟩ := own_rd h1 (row_one encOk_str l)
  exact ⟨A, c, he, hc, hr, hb, h1, hg⟩
end Go.Proofs.Ytafinbcmelpieaa
