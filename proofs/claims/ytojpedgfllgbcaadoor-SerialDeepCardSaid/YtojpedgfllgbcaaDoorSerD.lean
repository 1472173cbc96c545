/- SerialDeep: a tree as deep as you like. -/
import Derived.Test.YtojpedgfllgbcaaDoorSerO
import Derived.Test.YtojpedgfllgbcaaDoorTrW
import Derived.Test.YtojpedgfllgbcaaDoorSetN
import Derived.Test.YtojpedgfllgbcaaDoorKeep
import Derived.Test.YtojpedgfllgbcaaDoorShort
namespace Go.Proofs.YtojpedgfllgbcaaDoor
open Go.RowKit

def dL : Lab := ⟨3, 1, ⟨#[98]⟩, [], ⟨#[]⟩⟩
def deepT (tx : ByteArray) : Nat → Lab × Fo
  | 0 => (⟨4, 0, ⟨#[]⟩, [], tx⟩, .nil)
  | n + 1 => (dL, .cons (deepT tx n).1 (deepT tx n).2 .nil)
def rep (n : Nat) (l : List UInt8) : List UInt8 := (List.replicate n l).flatten
theorem rep_succ (n : Nat) (l : List UInt8) : rep (n + 1) l = l ++ rep n l := by simp [rep, List.replicate_succ]
theorem rep_last (n : Nat) (l : List UInt8) : rep (n + 1) l = rep n l ++ l := by
  induction n with
  | zero => simp [rep]
  | succ n ih => rw [rep_succ, ih, ← List.append_assoc, ← rep_succ, ih, List.append_assoc]
theorem rep_len (n : Nat) (l : List UInt8) : (rep n l).length = n * l.length := by
  induction n with
  | zero => simp [rep]
  | succ n ih => rw [rep_succ, List.length_append, ih, Nat.add_mul]; omega
theorem rep_at (l : List UInt8) : ∀ (n i : Nat), i < n → ∀ R, ((rep n l ++ R).drop (l.length * i)).take l.length = l
  | 0, _, h, _ => absurd h (by omega)
  | n + 1, 0, _, R => by rw [rep_succ, Nat.mul_zero, List.drop_zero, List.append_assoc, List.take_left']; rfl
  | n + 1, i + 1, h, R => by
    have e : l.length * (i + 1) = l.length + l.length * i := by rw [Nat.mul_add]; omega
    rw [rep_succ, List.append_assoc, e, List.drop_append, List.drop_of_length_le (by omega), List.nil_append, Nat.add_sub_cancel_left]
    exact rep_at l n i (by omega) R
def outD (x : Lab × Fo) : List UInt8 := nodeF false x.1 (innerF false x.1 x.2)
theorem deep_out (tx : ByteArray) (n : Nat) : outD (deepT tx n) = rep n [60, 98, 62] ++ escT false (B tx) ++ rep n [60, 47, 98, 62] := by
  induction n with
  | zero => simp [rep]; rfl
  | succ n ih =>
    have h1 : verbL false dL = false := by decide +kernel
    have h2 : tmplL dL = false := by decide +kernel
    have h3 : closed dL = false := by decide +kernel
    have e : outD (deepT tx (n + 1)) = [60, 98, 62] ++ (outD (deepT tx n) ++ [60, 47, 98, 62]) := by
      show nodeF false dL (outF false (.cons (deepT tx n).1 (deepT tx n).2 .nil) (verbL false dL) (tmplL dL)) = _
      rw [h1, h2]
      have hi : outF false (.cons (deepT tx n).1 (deepT tx n).2 .nil) false false = outD (deepT tx n) := by
        unfold outF
        rw [if_neg (by simp)]
        exact List.append_nil _
      rw [hi]
      unfold nodeF
      rw [h3]
      rfl
    rw [e, ih, rep_succ, rep_last n [60, 47, 98, 62]]
    simp only [List.append_assoc]
theorem deep_w (tx : ByteArray) (n : Nat) : wl (deepT tx n).1 + wF (deepT tx n).2 = 42 * n + 40 + 6 * tx.size := by
  induction n with
  | zero => show 40 + 2 * 0 + 6 * tx.size + 0 + 0 = _; omega
  | succ n ih =>
    show 42 + (wl (deepT tx n).1 + wF (deepT tx n).2 + 0) = _
    omega
theorem root_inner (x : Lab × Fo) : innerF false rootL (.cons x.1 x.2 .nil) = outD x := by
  have h1 : verbL false rootL = false := by decide +kernel
  have h2 : tmplL rootL = false := by decide +kernel
  unfold innerF
  rw [h1, h2]
  unfold outF
  rw [if_neg (by simp)]
  exact List.append_nil _
end Go.Proofs.YtojpedgfllgbcaaDoor
