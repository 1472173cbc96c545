/- arbourbook's rows of bytes with room, and arbourkeep.Cut. -/
import Derived.Test.YtpdbbpmkdkjppaaDoorUtfT
import Derived.Test.YtpdbbpmkdkjppaaDoorSameByte
import Derived.Test.YtpdbbpmkdkjppaaDoorSameRune
import Derived.Laws.IdiomCopy
import Derived.Laws.MakeOwn
namespace Go.Proofs.YtpdbbpmkdkjppaaDoor
open Go.RowKit

set_option maxHeartbeats 1000000 in
theorem cut_any (w : World) (A : Option Addr) (c : Nat) (l : List UInt8) (h : RdB w A c l) (m : Nat) (hm : m ≤ 1000000) :
    Calls Tryd.prog 10 #[.slice A l.length c, .int .i64 m] w fun e w' => e = .returned (.slice A (l.take m).length c) ∧ w = w' := by
  have hl := h.2.1
  have hx := h.2.2
  have hx2 : c ≤ 9223372036854775807 := hx
  rw [List.length_take]
  generalize hn : l.length = n at *
  by_cases hlt : m < n
  · have d0 : decide ((m : Int) < (n : Int)) = true := decide_eq_true (by omega)
    rw [Nat.min_eq_left (by omega)]
    obtain ⟨b, o, rfl, _⟩ := h.cell (by omega)
    have hmc : m ≤ c := by omega
    clear h hn
    go_enter Tryd.func10, Tryd.ntmps10
    go_wp2_with fail
    go_ret
    exact ⟨rfl, rfl⟩
  · have d0 : decide ((m : Int) < (n : Int)) = false := decide_eq_false (by omega)
    rw [Nat.min_eq_right (by omega)]
    clear h hn
    go_enter Tryd.func10, Tryd.ntmps10
    go_wp2_with fail
    go_ret
    exact ⟨rfl, rfl⟩

theorem size_b : (Tryd.prog.info? 5).map (·.size) = some 1 := by kernel_rfl
theorem make_bytes (w : World) (n : Nat) (hn : n ≤ 2000000) : (Instr.makeSlice 23 (.int .i64 ((n : Int) + 80)) (.int .i64 ((n : Int) + 80))).run Tryd.prog w = .ok (.slice (some ⟨w.heap.size, 0, none⟩) (n + 80) (n + 80)) (w.alloc (.cells (madeCells #[.int .u8 0] (n + 80)) 5)) := by
  obtain ⟨i0, hi0, hz0, hz1, hz2⟩ := info_parts info_byteU
  have h := run_makeSlice (P := Tryd.prog) (w := w) 23 5 i0 (.int .u8 0) Tryd.underlying23 hi0 hz0 .i64 .i64 ((n : Int) + 80) ((n : Int) + 80) (by omega) (Int.le_refl _) (by rw [hz1]; omega) (by rw [hz2]; omega) (by omega)
  have e : ((n : Int) + 80).toNat = n + 80 := by omega
  rw [e, hz1, Nat.mul_one] at h
  exact h
theorem copy_bytes (w : World) (g N : Nat) (M : List Value) (hM : M.length = N) (hg : Blk w g 5 M.toArray (0, 0)) (A : Option Addr) (c : Nat) (l : List UInt8) (hl : l.length ≤ N) (h : RdB w A c l) :
    ∃ w2, (Builtin.copy_ #[23, 23] 3 #[.slice (some ⟨g, 0, none⟩) N N, .slice A l.length c]).run Tryd.prog w = .ok (goInt l.length) w2 ∧ Blk w2 g 5 (l.flatMap enc_b ++ M.drop l.length).toArray (0, 0) ∧ Below g w w2 := by
  by_cases h0 : 0 < l.length
  · obtain ⟨ad, rfl, hc⟩ := h.1.2.2 h0
    have hln : (l.flatMap enc_b).length = l.length * 1 := row_len encOk_b l
    have hr := run_copy_parts (P := Tryd.prog) w 23 23 3 5 1 g 0 N N ad l.length c l.length [] M 5 (l.flatMap enc_b) Tryd.underlying23 size_b hg rfl (Nat.min_eq_left hl).symm hln hc (by rw [hln]; omega) (row_one encOk_b l)
    refine ⟨_, hr, ?_, ?_⟩
    · have := hg.setRow (l.flatMap enc_b ++ M.drop l.length).toArray
      rw [hln, Nat.mul_one, List.nil_append]
      exact this
    · exact ⟨rfl, rfl, rfl, by simp, fun k hk => setRow_other w g k _ (by omega)⟩
  · obtain rfl : l = [] := List.eq_nil_of_length_eq_zero (by omega)
    refine ⟨w, run_copy_none w _ _ _ 5 _ _ _ _ _ _ Tryd.underlying23 size_b (Nat.zero_min _), ?_, Below.refl _ _⟩
    simpa using hg
theorem set_next (X M : List Value) (i : Nat) (u : Value) (hX : X.length = i) (hi : i < M.length) : (X ++ M.drop i).toArray.setIfInBounds i u = (X ++ [u] ++ M.drop (i + 1)).toArray := by
  subst hX
  apply Array.toList_inj.1
  rw [Array.toList_setIfInBounds]
  simp only
  rw [List.set_append_right _ _ (Nat.le_refl _), Nat.sub_self, List.drop_eq_getElem_cons hi]
  show X ++ (u :: M.drop (X.length + 1)) = _
  simp

set_option maxHeartbeats 1000000 in
theorem roomy_any (w : World) (A : Option Addr) (c : Nat) (l : List UInt8) (h : RdB w A c l) (hsz : l.length ≤ 1000000) :
    Calls Tryd.prog 18 #[.slice A l.length c, .int .u8 165] w fun e w' => ∃ g, e = .returned (.slice (some ⟨g, 0, none⟩) (l.length + 80) (l.length + 80)) ∧ Blk w' g 5 ((l ++ List.replicate 80 165).flatMap enc_b).toArray (0, 0) ∧ Below w.heap.size w w' := by
  obtain ⟨M, hM⟩ : ∃ M, (madeCells #[.int .u8 0] (l.length + 80)).toList = M := ⟨_, rfl⟩
  have hMl : M.length = l.length + 80 := by rw [← hM, Array.length_toList, size_madeCells]
  have hMa : madeCells #[.int .u8 0] (l.length + 80) = M.toArray := by rw [← hM]
  have hmk := make_bytes w l.length (by omega)
  rw [hMa] at hmk
  have hb0 : Below w.heap.size w (w.alloc (.cells M.toArray 5)) := (Below.refl _ _).alloc (Nat.le_refl _) _
  obtain ⟨w2, hcp, hbk, hb2⟩ := copy_bytes (w.alloc (.cells M.toArray 5)) w.heap.size (l.length + 80) M hMl (Blk.new w _ _ _) A c l (by omega) (h.keep hb0)
  have HCP := Lib.hid hcp
  have HBK := Lib.hid hbk
  have HB2 := Lib.hid (hb0.trans hb2)
  have HLn := Lib.hid (row_len encOk_b l)
  have HML := Lib.hid hMl
  clear h hMa hcp hbk hb2 hb0 hM hMl
  generalize hn : l.length = n at *
  have HN := Lib.hid hn
  clear hn
  have s0 : IntKind.i64.wrap ((n : Int) + 80) = (n : Int) + 80 := IntWalk.i64_in _ (by omega)
  go_enter Tryd.func18, Tryd.ntmps18
  go_wp2_with (refine Lib.wpList_copy_run _ rfl (.tmp 11) (.tmp 12) _ _ rfl _ _ rfl rfl HCP.out ?_)
  go_loopw [6] (fun iv wr => ∃ i : Nat, n ≤ i ∧ i ≤ n + 80 ∧ iv = .int .i64 i ∧ Blk wr w.heap.size 5 ((l ++ List.replicate (i - n) 165).flatMap enc_b ++ M.drop i).toArray (0, 0) ∧ Below w.heap.size w wr) (fun iv _ => n + 80 - (intOf iv).toNat)
  case atStart => exact ⟨n, Nat.le_refl _, by omega, rfl, by rw [Nat.sub_self]; simpa using HBK.out, HB2.out⟩
  case round =>
    obtain ⟨i, hi1, hi2, rfl, hbk, hb⟩ := hrel
    have HBR := Lib.hid hbk
    have HB := Lib.hid hb
    by_cases hlt : i < n + 80
    · have d0 : decide ((i : Int) < (n : Int) + 80) = true := decide_eq_true (by omega)
      have s1 : IntKind.i64.wrap ((i : Int) + 1) = (i : Int) + 1 := IntWalk.i64_in _ (by omega)
      have hXl : ((l ++ List.replicate (i - n) 165).flatMap enc_b).length = i := by
        rw [row_len encOk_b, List.length_append, List.length_replicate, HN.out]
        omega
      have kf := hbk.frozen i (.inr (Nat.zero_le _))
      have kc : ∃ u, wr.cell? ⟨w.heap.size, i, none⟩ = some u := by
        rw [hbk.cell i]
        exact ⟨_, Array.getElem?_eq_getElem (by simp only [List.size_toArray, List.length_append, List.length_drop, hXl, HML.out]; omega)⟩
      obtain ⟨u0, k0⟩ := kc
      have hset := (hbk.set i (.int .u8 165))
      rw [set_next _ M i _ hXl (by rw [HML.out]; omega)] at hset
      have HST := Lib.hid hset
      have HBS := Lib.hid (hb.setCell (p := ⟨w.heap.size, i, none⟩) (Nat.le_refl _) (.int .u8 165))
      clear hbk hb hset hXl
      go_wp2_with fail
      refine ⟨⟨i + 1, by omega, by omega, by go_num, ?_, HBS.out⟩, by simp [intOf]; omega⟩
      have := HST.out
      rw [show i + 1 - n = (i - n) + 1 by omega, List.replicate_succ', ← List.append_assoc, List.flatMap_append (xs := l ++ List.replicate (i - n) 165)]
      exact this
    · obtain rfl : i = n + 80 := by omega
      have d0 : decide (((n + 80 : Nat) : Int) < (n : Int) + 80) = false := decide_eq_false (by omega)
      have hf := HBR.out
      rw [Nat.add_sub_cancel_left, List.drop_eq_nil_of_le (by rw [HML.out]; omega), List.append_nil] at hf
      have HF := Lib.hid hf
      clear hbk hb hf
      go_wp2_with fail
      go_ret
      exact ⟨_, rfl, HF.out, HB.out⟩
end Go.Proofs.YtpdbbpmkdkjppaaDoor
