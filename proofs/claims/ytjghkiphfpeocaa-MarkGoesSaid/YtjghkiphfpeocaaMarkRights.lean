/- token.Right at any mark's token. -/
import Derived.Test.YtjghkiphfpeocaaMarkRight
import Derived.Test.YtjghkiphfpeocaaAppend
namespace Go.Proofs.Ytjghkiphfpeocaa
open Go.RowKit

set_option maxHeartbeats 1000000 in
theorem plain_name (kd : Int) (nm : ByteArray) (w : World) :
    Calls Try.prog 39 #[.agg #[.int .i64 kd, .string nm, .slice none 0 0, .bool false, .string ⟨#[]⟩], .bool true, .bool false, .bool false] w fun e w' => e = .returned (.bool true) ∧ Below w.heap.size w w' := by
  have HB := Lib.hid ((Below.refl w.heap.size w).alloc (Nat.le_refl _) (.cells #[.int .i64 kd, .string nm, .slice none 0 0, .bool false, .string ⟨#[]⟩] 34))
  go_enter Try.func39, Try.ntmps39
  go_wp2_with fail
  go_ret
  exact ⟨rfl, HB.out⟩
set_option maxHeartbeats 1000000 in
theorem right_text (tx : ByteArray) (htx : B tx ≠ []) (w : World) :
    Calls Try.prog 23 #[.agg #[.int .i64 4, .string ⟨#[]⟩, .slice none 0 0, .bool false, .string tx]] w fun e w' => e = .returned (.bool true) ∧ Below w.heap.size w w' := by
  have HB := Lib.hid ((Below.refl w.heap.size w).alloc (Nat.le_refl _) (.cells #[.int .i64 4, .string ⟨#[]⟩, .slice none 0 0, .bool false, .string tx] 34))
  have hA := new_tok w (.int .i64 4) (.string ⟨#[]⟩) (.slice none 0 0) (.bool false) (.string tx)
  have HA := Lib.hid hA
  have HP := Lib.hid (fun w => plain_text 4 tx w)
  have t1 : (tx.toList == []) = false := by rw [toList_B, beq_eq_false_iff_ne]; exact htx
  have t2 : (tx.toList != []) = true := by rw [bne, t1]; rfl
  clear hA
  go_enter Try.func23, Try.ntmps23
  go_wp2_with fail
  refine (HP.out _).mono ?_
  rintro e w1 ⟨rfl, b1⟩
  obtain ⟨p0, p1, p2, p3, p4⟩ := cells_tok (HA.out.keep b1)
  have HB1 := Lib.hid (below_then HB.out HB.out.size b1)
  clear b1
  go_wp2_with fail
  go_ret
  exact ⟨rfl, HB1.out⟩
set_option maxHeartbeats 2000000 in
theorem right_doctype (nm : ByteArray) (hn : lowL (B nm) = B nm) (hs : nm.size ≤ 140737488355328) (w : World) :
    Calls Try.prog 23 #[.agg #[.int .i64 1, .string nm, .slice none 0 0, .bool false, .string ⟨#[]⟩]] w fun e w' => e = .returned (.bool true) ∧ Below w.heap.size w w' := by
  have hB := (Below.refl w.heap.size w).alloc (Nat.le_refl _) (.cells #[.int .i64 1, .string nm, .slice none 0 0, .bool false, .string ⟨#[]⟩] 34)
  have hA := new_tok w (.int .i64 1) (.string nm) (.slice none 0 0) (.bool false) (.string ⟨#[]⟩)
  have HP := Lib.hid (fun w => plain_name 1 nm w)
  have HL : Hid (∀ w, Calls Try.prog 40 #[.string nm] w fun e w' => e = .returned (.string nm) ∧ Below w.heap.size w w') := fun w =>
    (lower_any nm w hs).mono fun _ _ ⟨h, h'⟩ => ⟨h.trans (by rw [hn, S_B]), h'⟩
  have t1 : (nm.toList == nm.toList) = true := by simp
  clear hn hs
  go_enter Try.func23, Try.ntmps23
  go_wp2_with fail
  obtain ⟨wr, hwr⟩ : ∃ wr, wr = w.alloc (.cells #[.int .i64 1, .string nm, .slice none 0 0, .bool false, .string ⟨#[]⟩] 34) := ⟨_, rfl⟩
  rw [← hwr] at hA hB
  rw [show w.alloc (.cells #[.int .i64 1, .string nm, .slice none 0 0, .bool false, .string ⟨#[]⟩] 34) = wr from hwr.symm]
  clear hwr
  have HB := Lib.hid hB
  have hks : ∀ W, Below wr.heap.size wr W → (W.cell? ⟨w.heap.size, 0, none⟩ = some (.int .i64 1) ∧ W.cell? ⟨w.heap.size, 1, none⟩ = some (.string nm) ∧ W.cell? ⟨w.heap.size, 2, none⟩ = some (.slice none 0 0) ∧ W.cell? ⟨w.heap.size, 3, none⟩ = some (.bool false) ∧ W.cell? ⟨w.heap.size, 4, none⟩ = some (.string ⟨#[]⟩)) := fun W hW => cells_tok (hA.keep hW)
  have KS := Lib.hid hks
  have HW := Lib.hid (made_drew wr)
  clear hA hB hks
  go_region_held3 (fun W => W.cell? ⟨w.heap.size, 0, none⟩ = some (.int .i64 1) ∧ W.cell? ⟨w.heap.size, 1, none⟩ = some (.string nm) ∧ W.cell? ⟨w.heap.size, 2, none⟩ = some (.slice none 0 0) ∧ W.cell? ⟨w.heap.size, 3, none⟩ = some (.bool false) ∧ W.cell? ⟨w.heap.size, 4, none⟩ = some (.string ⟨#[]⟩))
    (exact KS.out _ HW.out)
    (first
      | (go_at_call 39
         refine (HP.out _).mono ?_
         rintro e w2 ⟨rfl, b2⟩
         have HW := Lib.hid (below_then HW.out HW.out.size b2)
         clear b2)
      | (go_at_call 40
         refine (HL.out _).mono ?_
         rintro e w2 ⟨rfl, b2⟩
         have HW := Lib.hid (below_then HW.out HW.out.size b2)
         clear b2))
  all_goals
    go_wp2_with fail
    go_ret
    exact ⟨rfl, below_then HB.out HB.out.size HW.out⟩
/-- A mark's token is right. -/
theorem right_mark (kd : Int) (nm tx : ByteArray) (w : World) (hk : kd ≠ 0) (hn : nm.size ≤ 140737488355328) (h : kd = 0 ∨ (kd = 5 ∧ nm = ⟨#[]⟩) ∨ (kd = 4 ∧ nm = ⟨#[]⟩ ∧ B tx ≠ []) ∨ (kd = 1 ∧ tx = ⟨#[]⟩ ∧ lowL (B nm) = B nm)) :
    Calls Try.prog 23 #[.agg #[.int .i64 kd, .string nm, .slice none 0 0, .bool false, .string tx]] w fun e w' => e = .returned (.bool true) ∧ Below w.heap.size w w' := by
  rcases h with h | ⟨rfl, rfl⟩ | ⟨rfl, rfl, h⟩ | ⟨rfl, rfl, h⟩
  · exact absurd h hk
  · exact right_comment tx w
  · exact right_text tx h w
  · exact right_doctype nm h hn w
end Go.Proofs.Ytjghkiphfpeocaa
