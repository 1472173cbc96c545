/- RefPlain's plain law: what is escaped comes back. No program in sight. -/
import Derived.Test.YtpdbbpmkdkjppaaReadL
import Derived.KernelRfl
namespace Go.Proofs.Ytpdbbpmkdkjppaa
open Go.RowKit

def escB (c : UInt8) : List UInt8 := if c = 38 then [38, 97, 109, 112, 59] else [c]
def escL (l : List UInt8) : List UInt8 := l.flatMap escB
def bareB (c : UInt8) : List UInt8 := if c = 38 then [] else [c]
def bareL (l : List UInt8) : List UInt8 := l.flatMap bareB
theorem named_amp (r : List UInt8) : namedR (97 :: 109 :: 112 :: 59 :: r) = (⟨#[97, 109, 112, 59]⟩, ⟨#[38]⟩) := by kernel_rfl
theorem refS_amp (attr : Bool) (r : List UInt8) : refS attr (38 :: 97 :: 109 :: 112 :: 59 :: r) = ([38], 5) := by
  unfold refS
  rw [if_neg (by rw [show foldL (38 :: 97 :: 109 :: 112 :: 59 :: r) [38, 35, 120] 0 = false from by kernel_rfl]; decide),
    if_neg (by rw [show startsL (38 :: 97 :: 109 :: 112 :: 59 :: r) [38, 35] 0 = false from by kernel_rfl]; decide)]
  unfold nameS
  simp only [List.drop_succ_cons, List.drop_zero]
  rw [named_amp]
  rw [if_neg (by decide), if_neg]
  · rfl
  · show ¬ ((attr && (some (59 : UInt8) != some 59) && _) = true)
    simp
theorem all_esc (attr : Bool) : ∀ l : List UInt8, allR attr (escL l) = l
  | [] => rfl
  | c :: l => by
    have ih := all_esc attr l
    show allR attr (escB c ++ escL l) = _
    unfold escB
    split
    · rename_i h
      subst h
      show allR attr (38 :: 97 :: 109 :: 112 :: 59 :: escL l) = _
      rw [allR_amp, refS_amp]
      show [38] ++ allR attr (escL l) = _
      rw [ih]; rfl
    · rename_i h
      show allR attr (c :: escL l) = _
      rw [allR_other attr c _ h, ih]
theorem all_bare (attr : Bool) (l : List UInt8) : allR attr (bareL l) = bareL l := by
  have := allR_plain attr (bareL l) [] (fun c hc => by
    obtain ⟨x, _, hx⟩ := List.mem_flatMap.1 hc
    unfold bareB at hx
    split at hx
    · cases hx
    · rename_i h; rw [List.mem_singleton] at hx; rw [hx]; exact h)
  rw [List.append_nil, allR_nil, List.append_nil] at this
  exact this
theorem flat_snoc (f : UInt8 → List UInt8) (l : List UInt8) (k : Nat) (c : UInt8) (h : l[k]? = some c) : (l.take (k + 1)).flatMap f = (l.take k).flatMap f ++ f c := by
  rw [List.take_add_one, h, List.flatMap_append]
  simp
theorem esc_len (l : List UInt8) : (escL l).length ≤ 5 * l.length := by
  induction l with
  | nil => simp [escL]
  | cons c l ih =>
    show (escB c ++ escL l).length ≤ _
    rw [List.length_append, List.length_cons]
    have : (escB c).length ≤ 5 := by unfold escB; split <;> simp
    omega
theorem bare_len (l : List UInt8) : (bareL l).length ≤ l.length := by
  induction l with
  | nil => simp [bareL]
  | cons c l ih =>
    show (bareB c ++ bareL l).length ≤ _
    rw [List.length_append, List.length_cons]
    have : (bareB c).length ≤ 1 := by unfold bareB; split <;> simp
    omega
end Go.Proofs.Ytpdbbpmkdkjppaa
