/- Joined texts: ScanR0, ScanR. -/
import Derived.Test.YtdjeajbinpgpiaaGreatJLexerTells5
import Derived.Test.YtdjeajbinpgpiaaGreatJLexerTells6
import Derived.Test.YtdjeajbinpgpiaaGreatJLexerTells13
namespace Go.Proofs.YtdjeajbinpgpiaaGreat
open Go.RowKit

set_option maxHeartbeats 800000 in
theorem rlower_any (s : ByteArray) (w : World) (hs : s.size ≤ 140737488355328) :
    Calls Tryz.prog 55 #[.string s] w fun e w' => e = .returned (.string (S (lowL (B s)))) ∧ Below w.heap.size w w' := by
  have kb := fun W => Lib.run_convert_string_bytes (P := Tryz.prog) W 9 27 5 s Tryz.underlying9 Tryz.underlying27 Tryz.underlying5
  go_enter Tryz.func55, Tryz.ntmps55
  go_wp2_with fail
  have hb0 := bytes_below w 5 s
  obtain ⟨C0, hC0, hS0, hG0⟩ := bytes_blk w 5 s
  generalize Lib.bytesWorld w 5 s = w0 at *
  generalize grownCap w s.size 0 5 = cap at *
  go_loopw [4] (fun i wr => ∃ (j : Nat) (C : Array Value), j ≤ s.size ∧ i = .int .i64 j ∧ Below w.heap.size w wr ∧ Blk wr w.heap.size 5 C (C.size, C.size + 1) ∧ s.size ≤ C.size ∧
      (∀ (i : Nat) (h : i < s.size), C[i]? = some (.int .u8 ((if i < j then lowB s[i] else s[i]).toNat : Int)))) (fun i _ => s.size - (intOf i).toNat)
  case atStart => exact ⟨0, C0, Nat.zero_le _, rfl, hb0, hC0, hS0, fun i h => by rw [if_neg (by omega)]; exact hG0 i h⟩
  case round =>
    obtain ⟨j, C, hj, rfl, hb, hC, hS, hG⟩ := hrel
    have HB := Lib.hid hb
    have HC := Lib.hid hC
    have HG := Lib.hid hG
    clear hb hC hG
    by_cases hlt : j < s.size
    · have hc1 := (HC.out.cell j).trans (HG.out j hlt)
      rw [if_neg (by omega)] at hc1
      have hf1 := HC.out.frozen j (.inl (by simp; omega))
      have hlo := lowB_toNat s[j]
      have hx := s[j].toNat_lt
      generalize hxx : s[j].toNat = x at *
      have HX := Lib.hid hxx
      have HL := Lib.hid hlo
      clear hxx hlo
      go_wp2_with fail
      · have h1 : 65 ≤ (x : Int) := by assumption
        have h2 : (x : Int) ≤ 90 := by assumption
        have e : ((x : Int) + 32) = ((lowB s[j]).toNat : Int) := by rw [HL.out, if_pos ⟨by omega, by omega⟩]; omega
        rw [e]
        refine ⟨⟨j + 1, C.setIfInBounds j (.int .u8 ((lowB s[j]).toNat : Int)), by omega, by go_num, HB.out.setCell (Nat.le_refl _) _, by simpa using HC.out.set j _, by simpa using hS, fun i h => ?_⟩, by simp [intOf]; omega⟩
        rw [Array.getElem?_setIfInBounds]
        by_cases hij : j = i
        · subst hij
          rw [if_pos rfl, if_pos (by omega), if_pos (by omega)]
        · rw [if_neg hij, HG.out i h]
          by_cases hlt' : i < j
          · rw [if_pos hlt', if_pos (by omega)]
          · rw [if_neg hlt', if_neg (by omega)]
      all_goals
        have e : (lowB s[j]).toNat = s[j].toNat := by
          rw [HL.out, HX.out, if_neg]
          omega
        refine ⟨⟨j + 1, C, by omega, by go_num, HB.out, HC.out, hS, fun i h => ?_⟩, by simp [intOf]; omega⟩
        rw [HG.out i h]
        by_cases hij : j = i
        · subst hij
          rw [if_neg (by omega), if_pos (by omega), e]
        · by_cases hlt' : i < j
          · rw [if_pos hlt', if_pos (by omega)]
          · rw [if_neg hlt', if_neg (by omega)]
    · have hk := back_of_bytes (P := Tryz.prog) wr 27 9 5 w.heap.size cap s.size (lowL (B s)) (by rw [lowL_length, ← size_B]) Tryz.underlying27 Tryz.underlying5 Tryz.underlying9
        (fun i hi => by
          have hi' : i < s.size := by rw [lowL_length, ← size_B] at hi; exact hi
          rw [HC.out.cell i, HG.out i hi', if_pos (by omega)]
          simp only [lowL, List.getElem_map]
          rw [B_get s i hi' (by rw [← size_B]; exact hi')]
          rfl)
      go_wp2_with fail
      go_ret
      exact ⟨rfl, HB.out⟩

theorem rplace_any (s : ByteArray) (at_ : Int) (w : World) (_hs : s.size ≤ 9223372036854775807) :
    Calls Tryz.prog 85 #[.string s, .int .i64 at_] w fun e w' => e = .returned (.int .i64 (clampN at_ s.size : Nat)) ∧ w = w' := by
  go_enter Tryz.func85, Tryz.ntmps85
  go_wp2
  all_goals
    go_ret
    refine ⟨ret_int ?_, rfl⟩
    unfold clampN
    simp
    omega

theorem rstarts_any (s sub : ByteArray) (at_ : Int) (w : World) (hs : s.size ≤ 140737488355328) (ht : sub.size ≤ 140737488355328) :
    Calls Tryz.prog 48 #[.string s, .int .i64 at_, .string sub] w fun e w' => e = .returned (.bool (startsL (B s) (B sub) (clampN at_ s.size))) ∧ w = w' := by
  have hk := clampN_le at_ s.size
  have Hw := fun w => rplace_any s at_ w (by omega)
  generalize clampN at_ s.size = k at *
  go_enter Tryz.func48, Tryz.ntmps48
  by_cases hlt : sub.size ≤ s.size - k
  · go_wp2_with (first
      | (go_at_call 85; refine (Hw _).mono ?_; rintro e w' ⟨rfl, rfl⟩))
    go_ret
    refine ⟨ret_bool ?_, rfl⟩
    rw [toList_B, toList_B, B_piece, Nat.add_sub_cancel_left, size_B, occ_take _ _ _ (by rw [← size_B, ← size_B]; exact hlt)]
  · go_wp2_with (first
      | (go_at_call 85; refine (Hw _).mono ?_; rintro e w' ⟨rfl, rfl⟩))
    go_ret
    exact ⟨ret_bool (occ_short _ _ _ (by rw [← size_B, ← size_B]; exact hlt)).symm, rfl⟩

theorem rfold_any (s sub : ByteArray) (at_ : Int) (w : World) (hs : s.size ≤ 140737488355328) (ht : sub.size ≤ 140737488355328) :
    Calls Tryz.prog 52 #[.string s, .int .i64 at_, .string sub] w fun e w' => e = .returned (.bool (foldL (B s) (B sub) (clampN at_ s.size))) ∧ Below w.heap.size w w' := by
  go_enter Tryz.func52, Tryz.ntmps52
  go_wp2_with fail
  refine (rlower_any _ _ hs).mono ?_
  rintro e w1 ⟨rfl, hb1⟩
  go_wp2_with fail
  refine (rlower_any _ _ ht).mono ?_
  rintro e w2 ⟨rfl, hb2⟩
  go_wp2_with fail
  refine (rstarts_any _ _ _ _ (by rw [size_S, lowL_length, ← size_B]; exact hs) (by rw [size_S, lowL_length, ← size_B]; exact ht)).mono ?_
  rintro e w3 ⟨rfl, rfl⟩
  go_wp2_with fail
  go_ret
  refine ⟨ret_bool ?_, below_both hb1 hb2⟩
  rw [size_S, lowL_length, ← size_B]
  rfl
end Go.Proofs.YtdjeajbinpgpiaaGreat

namespace Go.Proofs.YtdjeajbinpgpiaaGreat
open Go.RowKit

set_option maxHeartbeats 400000 in
theorem rfind_any (s : ByteArray) (at_ : Int) (sub : ByteArray) (w : World) (hs : s.size ≤ 140737488355328) (ht : sub.size ≤ 140737488355328) :
    Calls Tryz.prog 56 #[.string s, .int .i64 at_, .string sub] w fun e w' => e = .returned (.int .i64 (findL (B s) (B sub) (clampN at_ s.size) : Nat)) ∧ w = w' := by
  have hk := clampN_le at_ s.size
  have Hw := fun w => rplace_any s at_ w (by omega)
  generalize clampN at_ s.size = k at *
  go_enter Tryz.func56, Tryz.ntmps56
  go_wp2_with (first
    | (go_at_call 85; refine (Hw _).mono ?_; rintro e w' ⟨rfl, rfl⟩))
  go_loop [7] (fun i => ∃ j : Nat, k ≤ j ∧ j ≤ s.size + 1 ∧ i = .int .i64 j ∧ (∀ m, k ≤ m → m < j → Lib.occAt (B s) (B sub) m = false)) (fun i => s.size + 1 - (intOf i).toNat)
  case atStart => exact ⟨k, Nat.le_refl _, by omega, rfl, fun m h1 h2 => absurd h2 (by omega)⟩
  case round =>
    obtain ⟨j, hj1, hj2, rfl, he⟩ := hrel
    have HE := Lib.hid he
    clear he
    by_cases hlt : j ≤ s.size
    · have Hs := fun w => rstarts_any s sub j w hs ht
      rw [clampN_nat j s.size hlt] at Hs
      go_wp2_with (first
          | (go_at_call 48; refine (Hs _).mono ?_; rintro e w' ⟨rfl, rfl⟩))
      · have hp : startsL (B s) (B sub) j = true := by assumption
        go_ret
        refine ⟨ret_int ?_, rfl⟩
        rw [findL_first (B s) (B sub) k j hj1 (by rw [← size_B]; exact hlt) hp HE.out]
      · have hp : startsL (B s) (B sub) j = false := by assumption
        refine ⟨⟨j + 1, by omega, by omega, by go_num, fun m h1 h2 => ?_⟩, by simp [intOf]; omega⟩
        by_cases e : m = j
        · subst e; exact hp
        · exact HE.out m h1 (by omega)
    · go_wp2
      go_ret
      refine ⟨ret_int ?_, rfl⟩
      rw [findL_none (B s) (B sub) k (by rw [← size_B]; exact hk) (fun m h1 h2 => HE.out m h1 (by rw [← size_B] at h2; omega)), ← size_B]

theorem hasB_take (l : List UInt8) (c : UInt8) (j : Nat) (h : j < l.length) (h0 : hasB (l.take j) c = false) : hasB (l.take (j + 1)) c = (l[j] == c) := by
  unfold hasB at *
  rw [List.take_succ_eq_append_getElem h, List.any_append, h0, Bool.false_or]
  simp
theorem hasB_more (l : List UInt8) (c : UInt8) (j : Nat) (h : hasB (l.take j) c = true) : hasB l c = true := by
  rw [hasB_iff] at *
  exact List.mem_of_mem_take h
theorem byte_eq {a b : UInt8} (h : ((a.toNat : Int) == (b.toNat : Int)) = true) : a = b := UInt8.toNat_inj.1 (by rw [beq_iff_eq] at h; omega)

theorem rhas_any (s : ByteArray) (c : UInt8) (w : World) (hs : s.size ≤ 140737488355328) :
    Calls Tryz.prog 86 #[.string s, .int .u8 (c.toNat : Int)] w fun e w' => e = .returned (.bool (hasB (B s) c)) ∧ w = w' := by
  go_enter Tryz.func86, Tryz.ntmps86
  go_wp2_with fail
  go_loop [5] (fun i => ∃ j : Nat, j ≤ s.size ∧ i = .int .i64 j ∧ hasB ((B s).take j) c = false) (fun i => s.size - (intOf i).toNat)
  case atStart => exact ⟨0, by omega, rfl, rfl⟩
  case round =>
    obtain ⟨j, hj, rfl, he⟩ := hrel
    have HE := Lib.hid he
    clear he
    by_cases hlt : j < s.size
    · have hlt' : j < (B s).length := by rw [← size_B]; exact hlt
      have hc := hasB_take (B s) c j hlt' HE.out
      rw [B_get s j hlt hlt'] at hc
      have HC := Lib.hid hc
      clear hc
      go_wp2_with fail
      · have hp : s[j] = c := byte_eq (by assumption)
        go_ret
        exact ⟨ret_bool (hasB_more _ _ (j + 1) (by rw [HC.out, beq_iff_eq]; exact hp)).symm, rfl⟩
      · have hp : ((s[j].toNat : Int) == (c.toNat : Int)) = false := by assumption
        refine ⟨⟨j + 1, by omega, by go_num, ?_⟩, by simp [intOf]; omega⟩
        rw [HC.out, beq_eq_false_iff_ne]
        intro e
        rw [e] at hp
        simp at hp
    · go_wp2
      go_ret
      refine ⟨ret_bool ?_, rfl⟩
      rw [← HE.out, List.take_of_length_le (by rw [← size_B]; omega)]

theorem runtil_any (s : ByteArray) (at_ : Int) (set : ByteArray) (w : World) (hs : s.size ≤ 140737488355328) (ht : set.size ≤ 140737488355328) :
    Calls Tryz.prog 54 #[.string s, .int .i64 at_, .string set] w fun e w' => e = .returned (.int .i64 (untilL (B s) (B set) (clampN at_ s.size) : Nat)) ∧ w = w' := by
  have hk := clampN_le at_ s.size
  have Hw := fun w => rplace_any s at_ w (by omega)
  generalize clampN at_ s.size = k at *
  go_enter Tryz.func54, Tryz.ntmps54
  go_wp2_with (first
    | (go_at_call 85; refine (Hw _).mono ?_; rintro e w' ⟨rfl, rfl⟩))
  go_loop [7] (fun i => ∃ j : Nat, k ≤ j ∧ j ≤ s.size ∧ i = .int .i64 j ∧ untilL (B s) (B set) j = untilL (B s) (B set) k) (fun i => s.size - (intOf i).toNat)
  case atStart => exact ⟨k, Nat.le_refl _, hk, rfl, rfl⟩
  case round =>
    obtain ⟨j, hj1, hj2, rfl, he⟩ := hrel
    have HE := Lib.hid he
    clear he
    by_cases hlt : j < s.size
    · go_wp2_with (first
          | (go_at_call 86; refine (rhas_any _ _ _ ht).mono ?_; rintro e w' ⟨rfl, rfl⟩))
      · have hp : (!hasB (B set) s[j]) = true := by assumption
        refine ⟨⟨j + 1, by omega, by omega, by go_num, (stopB_step _ s j hlt hp).trans HE.out⟩, by simp [intOf]; omega⟩
      · have hp : (!hasB (B set) s[j]) = false := by assumption
        go_ret
        refine ⟨ret_int ?_, rfl⟩
        rw [← HE.out, untilL, stopB_stop _ s j hlt hp]
    · go_wp2
      go_ret
      refine ⟨ret_int ?_, rfl⟩
      rw [← HE.out, untilL, stopB_end _ s j hlt]

theorem rname_any (s : ByteArray) (at_ : Int) (w : World) (hs : s.size ≤ 140737488355328) :
    Calls Tryz.prog 77 #[.string s, .int .i64 at_] w fun e w' => e = .returned (.int .i64 (nameL (B s) (clampN at_ s.size) : Nat)) ∧ w = w' := by
  go_enter Tryz.func77, Tryz.ntmps77
  go_wp2_with (first
    | (go_at_call 54; refine (runtil_any _ _ _ _ hs (by decide)).mono ?_; rintro e w' ⟨rfl, rfl⟩))
  go_ret
  exact ⟨rfl, rfl⟩

theorem rspace_any (c : Int) (w : World) :
    Calls Tryz.prog 76 #[.int .i32 c] w fun e w' => e = .returned (.bool (c == 9 || c == 10 || c == 12 || c == 13 || c == 32)) ∧ w = w' := by
  go_enter Tryz.func76, Tryz.ntmps76
  go_wp2
  all_goals
    go_ret
    refine ⟨ret_bool ?_, rfl⟩
    simp [*]

theorem rspace_rune (c : UInt8) (w : World) :
    Calls Tryz.prog 76 #[.int .i32 (wrap32 (c.toNat : Int))] w fun e w' => e = .returned (.bool (spaceB c)) ∧ w = w' := by
  rw [wrap_byte]
  exact (rspace_any _ w).mono fun _ _ ⟨h, h'⟩ => ⟨h.trans (ret_bool (space_eq c)), h'⟩

theorem rskip_any (s : ByteArray) (at_ : Int) (w : World) (hs : s.size ≤ 140737488355328) :
    Calls Tryz.prog 53 #[.string s, .int .i64 at_] w fun e w' => e = .returned (.int .i64 (skipL (B s) (clampN at_ s.size) : Nat)) ∧ w = w' := by
  have hk := clampN_le at_ s.size
  have Hw := fun w => rplace_any s at_ w (by omega)
  generalize clampN at_ s.size = k at *
  go_enter Tryz.func53, Tryz.ntmps53
  go_wp2_with (first
    | (go_at_call 85; refine (Hw _).mono ?_; rintro e w' ⟨rfl, rfl⟩))
  go_loop [5] (fun i => ∃ j : Nat, k ≤ j ∧ j ≤ s.size ∧ i = .int .i64 j ∧ skipL (B s) j = skipL (B s) k) (fun i => s.size - (intOf i).toNat)
  case atStart => exact ⟨k, Nat.le_refl _, hk, rfl, rfl⟩
  case round =>
    obtain ⟨j, hj1, hj2, rfl, he⟩ := hrel
    have HE := Lib.hid he
    clear he
    by_cases hlt : j < s.size
    · go_wp2_with (first
          | (go_at_call 76; refine (rspace_rune _ _).mono ?_; rintro e w' ⟨rfl, rfl⟩))
      · have hp : spaceB s[j] = true := by assumption
        refine ⟨⟨j + 1, by omega, by omega, by go_num, (stopB_step _ s j hlt hp).trans HE.out⟩, by simp [intOf]; omega⟩
      · have hp : spaceB s[j] = false := by assumption
        go_ret
        refine ⟨ret_int ?_, rfl⟩
        rw [← HE.out, skipL, stopB_stop _ s j hlt hp]
    · go_wp2
      go_ret
      refine ⟨ret_int ?_, rfl⟩
      rw [← HE.out, skipL, stopB_end _ s j hlt]

end Go.Proofs.YtdjeajbinpgpiaaGreat
