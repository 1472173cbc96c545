/- The functions of the references' chapters 4 and 9, and the statements' own helpers: each with what it answers. -/
import Derived.Test.YtjghkiphfpeocaaScanP0
import Derived.Test.YtjghkiphfpeocaaKeepH
namespace Go.Proofs.Ytjghkiphfpeocaa
open Go.RowKit

set_option maxHeartbeats 800000 in
theorem rlower_any (s : ByteArray) (w : World) (hs : s.size ≤ 140737488355328) :
    Calls Try.prog 51 #[.string s] w fun e w' => e = .returned (.string (S (lowL (B s)))) ∧ Below w.heap.size w w' := by
  have kb := fun W => Lib.run_convert_string_bytes (P := Try.prog) W 9 61 5 s Try.underlying9 Try.underlying61 Try.underlying5
  go_enter Try.func51, Try.ntmps51
  go_wp2_with fail
  have hb0 := bytes_below w 5 s
  obtain ⟨C0, hC0, hS0, hG0⟩ := bytes_blk w 5 s
  generalize Lib.bytesWorld w 5 s = w0 at *
  generalize grownCap w s.size 0 5 = cap at *
  go_loopw [4] (fun i wr => ∃ (j : Nat) (C : Array Value), j ≤ s.size ∧ i = .int .i64 j ∧ Below w.heap.size w wr ∧ Blk wr w.heap.size 5 C (C.size, C.size + 1) ∧ s.size ≤ C.size ∧
      (∀ (i : Nat) (h : i < s.size), C[i]? = some (.int .u8 ((if i < j then lowB s[i] else s[i]).toNat : Int)))) (fun i _ => s.size - (intOf i).toNat)
  case atStart => exact ⟨0, C0, Nat.zero_le _, rfl, hb0, hC0, hS0, fun i h => by rw [if_neg (by omega)]; exact hG0 i h⟩
  case round =>
    obtain ⟨j, C, hj, rfl, hb, hC, hS, hG⟩ := hrel
    have HB := Lib.hid hb
    have HC := Lib.hid hC
    have HG := Lib.hid hG
    clear hb hC hG
    by_cases hlt : j < s.size
    · have hc1 := (HC.out.cell j).trans (HG.out j hlt)
      rw [if_neg (by omega)] at hc1
      have hf1 := HC.out.frozen j (.inl (by simp; omega))
      have hlo := lowB_toNat s[j]
      have hx := s[j].toNat_lt
      generalize hxx : s[j].toNat = x at *
      have HX := Lib.hid hxx
      have HL := Lib.hid hlo
      clear hxx hlo
      go_wp2_with fail
      · have h1 : 65 ≤ (x : Int) := by assumption
        have h2 : (x : Int) ≤ 90 := by assumption
        have e : ((x : Int) + 32) = ((lowB s[j]).toNat : Int) := by rw [HL.out, if_pos ⟨by omega, by omega⟩]; omega
        rw [e]
        refine ⟨⟨j + 1, C.setIfInBounds j (.int .u8 ((lowB s[j]).toNat : Int)), by omega, by go_num, HB.out.setCell (Nat.le_refl _) _, by simpa using HC.out.set j _, by simpa using hS, fun i h => ?_⟩, by simp [intOf]; omega⟩
        rw [Array.getElem?_setIfInBounds]
        by_cases hij : j = i
        · subst hij
          rw [if_pos rfl, if_pos (by omega), if_pos (by omega)]
        · rw [if_neg hij, HG.out i h]
          by_cases hlt' : i < j
          · rw [if_pos hlt', if_pos (by omega)]
          · rw [if_neg hlt', if_neg (by omega)]
      all_goals
        have e : (lowB s[j]).toNat = s[j].toNat := by
          rw [HL.out, HX.out, if_neg]
          omega
        refine ⟨⟨j + 1, C, by omega, by go_num, HB.out, HC.out, hS, fun i h => ?_⟩, by simp [intOf]; omega⟩
        rw [HG.out i h]
        by_cases hij : j = i
        · subst hij
          rw [if_neg (by omega), if_pos (by omega), e]
        · by_cases hlt' : i < j
          · rw [if_pos hlt', if_pos (by omega)]
          · rw [if_neg hlt', if_neg (by omega)]
    · have hk := back_of_bytes (P := Try.prog) wr 61 9 5 w.heap.size cap s.size (lowL (B s)) (by rw [lowL_length, ← size_B]) Try.underlying61 Try.underlying5 Try.underlying9
        (fun i hi => by
          have hi' : i < s.size := by rw [lowL_length, ← size_B] at hi; exact hi
          rw [HC.out.cell i, HG.out i hi', if_pos (by omega)]
          simp only [lowL, List.getElem_map]
          rw [B_get s i hi' (by rw [← size_B]; exact hi')]
          rfl)
      go_wp2_with fail
      go_ret
      exact ⟨rfl, HB.out⟩

theorem rplace_any (s : ByteArray) (at_ : Int) (w : World) (_hs : s.size ≤ 9223372036854775807) :
    Calls Try.prog 71 #[.string s, .int .i64 at_] w fun e w' => e = .returned (.int .i64 (clampN at_ s.size : Nat)) ∧ w = w' := by
  go_enter Try.func71, Try.ntmps71
  go_wp2
  all_goals
    go_ret
    refine ⟨ret_int ?_, rfl⟩
    unfold clampN
    simp
    omega

theorem rstarts_any (s sub : ByteArray) (at_ : Int) (w : World) (hs : s.size ≤ 140737488355328) (ht : sub.size ≤ 140737488355328) :
    Calls Try.prog 44 #[.string s, .int .i64 at_, .string sub] w fun e w' => e = .returned (.bool (startsL (B s) (B sub) (clampN at_ s.size))) ∧ w = w' := by
  have hk := clampN_le at_ s.size
  have Hw := fun w => rplace_any s at_ w (by omega)
  generalize clampN at_ s.size = k at *
  go_enter Try.func44, Try.ntmps44
  by_cases hlt : sub.size ≤ s.size - k
  · go_wp2_with (first
      | (go_at_call 71; refine (Hw _).mono ?_; rintro e w' ⟨rfl, rfl⟩))
    go_ret
    refine ⟨ret_bool ?_, rfl⟩
    rw [toList_B, toList_B, B_piece, Nat.add_sub_cancel_left, size_B, occ_take _ _ _ (by rw [← size_B, ← size_B]; exact hlt)]
  · go_wp2_with (first
      | (go_at_call 71; refine (Hw _).mono ?_; rintro e w' ⟨rfl, rfl⟩))
    go_ret
    exact ⟨ret_bool (occ_short _ _ _ (by rw [← size_B, ← size_B]; exact hlt)).symm, rfl⟩

theorem rfold_any (s sub : ByteArray) (at_ : Int) (w : World) (hs : s.size ≤ 140737488355328) (ht : sub.size ≤ 140737488355328) :
    Calls Try.prog 48 #[.string s, .int .i64 at_, .string sub] w fun e w' => e = .returned (.bool (foldL (B s) (B sub) (clampN at_ s.size))) ∧ Below w.heap.size w w' := by
  go_enter Try.func48, Try.ntmps48
  go_wp2_with fail
  refine (rlower_any _ _ hs).mono ?_
  rintro e w1 ⟨rfl, hb1⟩
  go_wp2_with fail
  refine (rlower_any _ _ ht).mono ?_
  rintro e w2 ⟨rfl, hb2⟩
  go_wp2_with fail
  refine (rstarts_any _ _ _ _ (by rw [size_S, lowL_length, ← size_B]; exact hs) (by rw [size_S, lowL_length, ← size_B]; exact ht)).mono ?_
  rintro e w3 ⟨rfl, rfl⟩
  go_wp2_with fail
  go_ret
  refine ⟨ret_bool ?_, below_both hb1 hb2⟩
  rw [size_S, lowL_length, ← size_B]
  rfl
end Go.Proofs.Ytjghkiphfpeocaa
