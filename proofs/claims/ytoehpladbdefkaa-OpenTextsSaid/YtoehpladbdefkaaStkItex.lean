/- A pile of itex (structs): the methods of stack.Stack, each with what it answers. -/
import Derived.Test.YtoehpladbdefkaaAppend
import Derived.Test.YtoehpladbdefkaaSlItex
import Derived.Laws.ResultCell
import Derived.Test.YtoehpladbdefkaaItem
namespace Go.Proofs.Ytoehpladbdefkaa
open Go.RowKit

def enc_itex : Ix → List Value := fun x => [.string x.h, .int .i64 x.ns, .string x.name, .slice x.a x.n x.c]
def val_itex : Ix → Value := fun x => .agg #[.string x.h, .int .i64 x.ns, .string x.name, .slice x.a x.n x.c]
theorem encOk_itex : EncOk enc_itex 4 := fun x => ⟨rfl, fun u hu => List.all_eq_true.1 (show (enc_itex x).all (fun u => u.oneCell') = true from rfl) u hu⟩
abbrev Pile_itex (w : World) (p : Nat) (v : Value) (l : List Ix) : Prop := Stk 130 56 4 enc_itex w p v l

theorem new_itex (w : World) :
    Calls Try.prog 67 #[] w fun e w' => e = .returned (.pointer (some ⟨w.heap.size, 0, none⟩)) ∧ Pile_itex w' w.heap.size (.slice none 0 0) [] ∧ Below w.heap.size w w' := by
  go_enter Try.func67, Try.ntmps67
  go_wp2
  go_ret
  exact ⟨rfl, ⟨Blk.new w _ _ _, World.ownsRow_nil _ _ _ _, fun h => by cases h⟩, (Below.refl _ _).alloc (Nat.le_refl _) _⟩

theorem len_itex (w : World) (p : Nat) (v : Value) (l : List Ix) (h : Pile_itex w p v l) :
    Calls Try.prog 73 #[.pointer (some ⟨p, 0, none⟩)] w fun e w' => e = .returned (.int .i64 (l.length : Int)) ∧ w = w' := by
  obtain ⟨A, c, rfl, hc, _, _⟩ := own_rd h.row (row_one encOk_itex l)
  have h0 : w.cell? ⟨p, 0, none⟩ = some (.slice A l.length c) := h.cell.cell 0
  go_enter Try.func73, Try.ntmps73
  go_wp2
  go_ret
  exact ⟨rfl, rfl⟩

theorem is_itex (w : World) (p : Nat) (v : Value) (l : List Ix) (i : Int) (h : Pile_itex w p v l) :
    Calls Try.prog 129 #[.pointer (some ⟨p, 0, none⟩), .int .i64 i] w fun e w' => e = .returned (.bool (getL l i).isSome) ∧ w = w' := by
  obtain ⟨A, c, rfl, hc, _, _⟩ := own_rd h.row (row_one encOk_itex l)
  have h0 : w.cell? ⟨p, 0, none⟩ = some (.slice A l.length c) := h.cell.cell 0
  rw [getL_isSome]
  clear h hc
  by_cases hi : 0 ≤ i
  · have d1 : decide (i ≥ 0) = true := decide_eq_true hi
    rw [show decide (0 ≤ i) = true from d1, Bool.true_and]
    go_enter Try.func129, Try.ntmps129
    go_wp2
    go_ret
    exact ⟨rfl, rfl⟩
  · have d1 : decide (i ≥ 0) = false := decide_eq_false hi
    rw [show decide (0 ≤ i) = false from d1, Bool.false_and]
    go_enter Try.func129, Try.ntmps129
    go_wp2
    go_ret
    exact ⟨rfl, rfl⟩

theorem at_itex (w : World) (p : Nat) (v : Value) (l : List Ix) (i : Int) (h : Pile_itex w p v l) :
    Calls Try.prog 111 #[.pointer (some ⟨p, 0, none⟩), .int .i64 i] w fun e w' => e = .returned (.tuple #[(getL l i).elim (.agg #[.string ⟨#[]⟩, .int .i64 0, .string ⟨#[]⟩, .slice none 0 0]) val_itex, .bool (getL l i).isSome]) ∧ Below w.heap.size w w' := by
  have hb0 : Below w.heap.size w (w.alloc (.cells #[.string ⟨#[]⟩, .int .i64 0, .string ⟨#[]⟩, .slice none 0 0] 56)) := (Below.refl _ _).alloc (Nat.le_refl _) _
  have hI := is_itex _ p v l i (h.keep hb0)
  rcases hg : getL l i with _ | x
  · rw [hg] at hI
    simp only [Option.isSome_none, Option.elim] at hI ⊢
    go_enter Try.func111, Try.ntmps111
    go_wp2_with fail
    refine hI.mono ?_
    rintro e w' ⟨rfl, rfl⟩
    go_wp2_with fail
    refine bodyPost_ret (v := .tuple #[.agg #[.string ⟨#[]⟩, .int .i64 0, .string ⟨#[]⟩, .slice none 0 0], .bool false]) (by simp [results, Try.results111, go_sem]) rfl ⟨rfl, ?_⟩
    exact ((Below.refl _ _).alloc (Nat.le_refl _) _).alloc (by simp) _
  · rw [hg] at hI
    obtain ⟨j, rfl, hj, hx⟩ := getL_some hg
    obtain ⟨g, cap, rest, rfl, _, hb, hnc, _, _⟩ := own_parts (h.keep hb0).row (by omega)
    have h0 := (h.keep hb0).cell.cell 0
    have hc : ∀ k u, (enc_itex x)[k]? = some u → (w.alloc (.cells #[.string ⟨#[]⟩, .int .i64 0, .string ⟨#[]⟩, .slice none 0 0] 56)).cell? ⟨g, j * 4 + k, none⟩ = some u := fun k u hu => by
      rw [hb.cell]
      have hr := row_at encOk_itex l j k x u hx hu
      simp only [List.getElem?_toArray]
      rw [List.getElem?_append_left (List.getElem?_eq_some_iff.1 hr).1]
      exact hr
    have c0 := hc 0 _ rfl; have c1 := hc 1 _ rfl; have c2 := hc 2 _ rfl; have c3 := hc 3 _ rfl; simp only [Nat.add_zero] at c0
    have hglt : g < w.heap.size := owns_lt h.row rfl
    clear hc
    simp only [Option.isSome_some, Option.elim] at hI ⊢
    go_enter Try.func111, Try.ntmps111
    go_wp2_with fail
    refine hI.mono ?_
    rintro e w' ⟨rfl, rfl⟩
    go_wp2_with fail
    refine bodyPost_ret (v := .tuple #[val_itex x, .bool true]) (by simp [results, Try.results111, val_itex, go_sem]) rfl ⟨rfl, ?_⟩
    exact (Below.refl _ _).alloc (Nat.le_refl _) _

/-- A variable that holds one: its cells, and that they may be written. -/
theorem var_itex {w : World} {b : Nat} {x : Ix} (h : Blk w b 56 (enc_itex x).toArray (0, 0)) : (∀ k u, (enc_itex x)[k]? = some u → w.cell? ⟨b, k, none⟩ = some u) ∧ ∀ k, w.frozen? ⟨b, k, none⟩ = false :=
  ⟨fun k u hu => by rw [h.cell k, List.getElem?_toArray]; exact hu, fun k => h.frozen k (.inr (Nat.zero_le _))⟩
def zero_of_itex : Ix := ⟨⟨#[]⟩, 0, ⟨#[]⟩, none, 0, 0⟩

set_option maxHeartbeats 2000000 in
set_option maxRecDepth 100000 in
theorem push_itex (w : World) (p : Nat) (v : Value) (l : List Ix) (x : Ix) (h : Pile_itex w p v l) (hsz : (l.length + 1) * 64 ≤ 140737488355328) :
    Calls Try.prog 68 #[.pointer (some ⟨p, 0, none⟩), val_itex x] w fun e w' => ∃ v', e = .returned (.tuple #[]) ∧ Pile_itex w' p v' (l ++ [x]) ∧ But (foot p v) w w' ∧ Grown w v v' := by
  obtain ⟨i0, hi0, hz0, hz1, hz2⟩ := info_parts info_itex
  obtain ⟨A, c, hv, hc, _, _⟩ := own_rd h.row (row_one encOk_itex l)
  have hb0 : Below w.heap.size w (w.alloc (.cells (enc_itex x).toArray 56)) := (Below.refl _ _).alloc (Nat.le_refl _) _
  have h0 : (w.alloc (.cells (enc_itex x).toArray 56)).cell? ⟨p, 0, none⟩ = some v := (h.keep hb0).cell.cell 0
  obtain ⟨hvc, hvf⟩ := var_itex (x := x) (Blk.new w 56 (enc_itex x).toArray (0, 0))
  have c0 := hvc 0 _ rfl; have c1 := hvc 1 _ rfl; have c2 := hvc 2 _ rfl; have c3 := hvc 3 _ rfl
  clear hvc hvf
  have hb1 : Below w.heap.size w ((w.alloc (.cells (enc_itex x).toArray 56)).drew.alloc (.cells (enc_itex x).toArray 56)) := hb0.drew.alloc (by simp) _
  have hown : ((w.alloc (.cells (enc_itex x).toArray 56)).drew.alloc (.cells (enc_itex x).toArray 56)).ownsRow 0 56 4 v l.length (l.flatMap enc_itex) :=
    owns_but h.row (But.of_below hb1) (S := fun _ => False) (fun _ _ h => h)
  have hrd : Rd ((w.alloc (.cells (enc_itex x).toArray 56)).drew.alloc (.cells (enc_itex x).toArray 56)) (some ⟨w.heap.size + 1, 0, none⟩) 1 4 (enc_itex x) :=
    ⟨rfl, (encOk_itex x).2, fun _ => ⟨_, rfl, fun j u hu => by
      have hb1 : Blk ((w.alloc (.cells (enc_itex x).toArray 56)).drew.alloc (.cells (enc_itex x).toArray 56)) (w.heap.size + 1) 56 (enc_itex x).toArray (0, 0) := by
        have := Blk.new (w.alloc (.cells (enc_itex x).toArray 56)).drew 56 (enc_itex x).toArray (0, 0)
        simpa using this
      rw [add0, hb1.cell j, List.getElem?_toArray]; exact hu⟩⟩
  have h01 : ((w.alloc (.cells (enc_itex x).toArray 56)).alloc (.cells (enc_itex x).toArray 56)).cell? ⟨p, 0, none⟩ = some v := (h.keep (hb0.alloc (by simp) (.cells (enc_itex x).toArray 56))).cell.cell 0
  have HH := Lib.hid h
  have HO := Lib.hid hown
  have HR := Lib.hid hrd
  have HB1 := Lib.hid hb1
  clear hown hrd hb1 h hb0
  unfold enc_itex at h0 h01 c0 c1 c2 c3
  subst hv
  unfold val_itex
  go_enter Try.func68, Try.ntmps68
  go_wp2_with fail
  go_region_law ((
    refine step_append_any _ (by rfl) (.tmp 8) (.tmp 10) _ (by rfl) 0 56 i0 _ 4 64 Try.underlying128 hi0 hz0 hz1 hz2 rfl (by omega) _ _ _ (by rfl) HO.out _ 1 1 (enc_itex x) (by rfl) HR.out (by simp only [maxLen]; omega) (by omega) (Nat.zero_le _) ?_
    intro v1 w1 hown1 hg1 hat1
    obtain ⟨A1, cap1, hv1, k0, f0, HS, HB, HG, _⟩ := stored_after (l1 := l ++ [x]) encOk_itex HH.out HB1.out hown1 hg1 hat1 (by simp) (by rw [List.flatMap_append]; simp)
    clear hown1 hg1 hat1
    subst hv1))
  all_goals
    go_end0
    exact ⟨_, rfl, HS.out, HB.out, HG.out⟩

end Go.Proofs.Ytoehpladbdefkaa
