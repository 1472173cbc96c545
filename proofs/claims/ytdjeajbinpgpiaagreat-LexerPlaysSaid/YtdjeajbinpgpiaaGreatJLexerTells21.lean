/- Joined texts: Attrs3a, RefC. -/
import Derived.Test.YtdjeajbinpgpiaaGreatJLexerTells3
import Derived.Test.YtdjeajbinpgpiaaGreatJLexerTells20
import Derived.Test.YtdjeajbinpgpiaaGreatJLexerTells7
namespace Go.Proofs.YtdjeajbinpgpiaaGreat
open Go.RowKit

set_option maxHeartbeats 1000000 in
set_option maxRecDepth 100000 in
theorem add7 (w : World) (A : Option Addr) (n c : Nat) (l : List At) (x : At) (h : RdA w A n l) (hsz : n + 1 ≤ 4398046511104) :
    Calls Tryz.prog 80 #[.slice A n c, val_at x] w fun e w' => ∃ v', e = .returned v' ∧ RowA w' w.heap.size v' (addA l x) ∧ Below w.heap.size w w' := by
  obtain ⟨i0, hi0, hz0, hz1, hz2⟩ := info_parts info_at
  have hb0 : Below w.heap.size w (w.alloc (.cells (enc_at x).toArray 71)) := (Below.refl _ _).alloc (Nat.le_refl _) _
  have hb1 : Below w.heap.size w ((w.alloc (.cells (enc_at x).toArray 71)).alloc (.cells #[] 71)) := hb0.alloc (by simp) _
  have hm : ((w.alloc (.cells (enc_at x).toArray 71)).alloc (.cells #[] 71)).ownsRow w.heap.size 71 2 (.slice (some ⟨w.heap.size + 1, 0, none⟩) 0 0) 0 [] := by
    have := made_new w _ 71 2 hb0
    simpa using this
  have hx : Blk (w.alloc (.cells (enc_at x).toArray 71)) w.heap.size 71 (enc_at x).toArray (0, 0) := Blk.new w _ _ _
  have HX := Lib.hid hx
  have HM := Lib.hid hm
  have H := Lib.hid h
  have HR := Lib.hid (h.keep hb1).2
  have HL := Lib.hid h.1
  have HB1 := Lib.hid hb1
  clear h hm hx hb0 hb1
  unfold val_at
  obtain ⟨k, hk⟩ : ∃ k, findA l x.name = k := ⟨_, rfl⟩
  have HK := Lib.hid hk
  have hf := findA_neg l x.name
  rw [hk] at hf
  have hadd : Hid (addA l x = if l.any (nameP x.name) = true then l else l ++ [x]) := rfl
  clear hk
  cases hq : l.any (nameP x.name)
  all_goals
    rw [hq] at hf
    simp only [Bool.not_false, Bool.not_true] at hf
    have HQ := Lib.hid hq
    clear hq
    go_enter Tryz.func80, Tryz.ntmps80
    go_wp2_with (first
      | (at_builtin
         refine append_made w _ rfl (.tmp 6) (.tmp 7) _ rfl 71 i0 _ 2 32 Tryz.underlying42 hi0 hz0 hz1 hz2 rfl (by omega) _ _ _ rfl HM.out A n c _ rfl HR.out (by simp only [maxLen]; omega) (by omega) HB1.out ?_
         intro v1 w1 hown1 hb1 hg1
         rw [Nat.zero_add, List.nil_append] at hown1
         have hx1 : Blk w1 w.heap.size 71 (enc_at x).toArray (0, 0) := grown_blk (HX.out.alloc _) hg1 (by omega)
         obtain ⟨x0, x1⟩ := var_at hx1
         have HX1 := Lib.hid hx1
         have HO := Lib.hid hown1
         have HB := Lib.hid hb1
         have hi := has7 w1 A n c l x.name (H.out.keep hb1) (by omega)
         rw [HK.out] at hi
         have HI := Lib.hid hi
         clear hown1 hb1 hg1 hx1 hi))
    refine HI.out.mono ?_
    rintro e w2 ⟨rfl, rfl⟩
  · have hb2 : Below w1.heap.size w1 (w1.alloc (.cells (enc_at x).toArray 71)) := (Below.refl _ _).alloc (Nat.le_refl _) _
    have HR2 := Lib.hid (rd_one_at (Blk.new w1 71 (enc_at x).toArray (0, 0)))
    have HO2 := Lib.hid (owns_but HO.out (But.of_below hb2) (S := fun _ => False) (fun _ _ h => h))
    have HB2 := Lib.hid (below_then HB.out HB.out.size hb2)
    clear hb2
    go_wp2_with (first
      | (at_builtin
         refine append_made w _ rfl (.tmp 14) (.tmp 16) _ rfl 71 i0 _ 2 32 Tryz.underlying42 hi0 hz0 hz1 hz2 rfl (by omega) _ _ _ rfl HO2.out (some ⟨w1.heap.size, 0, none⟩) 1 1 _ rfl HR2.out (by simp only [maxLen]; omega) (by omega) HB2.out ?_
         intro v2 w2 hown2 hb3 hg2
         have HO3 := Lib.hid hown2
         have HB3 := Lib.hid hb3
         clear hown2 hb3 hg2))
    go_ret
    refine ⟨_, rfl, ?_, HB3.out⟩
    have ho := HO3.out
    rw [hadd.out, if_neg (by rw [HQ.out]; decide)]
    unfold RowA
    rw [List.length_append, List.flatMap_append, ← HL.out]
    simpa using ho
  · go_wp2_with fail
    go_ret
    refine ⟨_, rfl, ?_, HB.out⟩
    rw [hadd.out, if_pos HQ.out]
    unfold RowA
    rw [← HL.out]
    exact HO.out

end Go.Proofs.YtdjeajbinpgpiaaGreat

namespace Go.Proofs.YtdjeajbinpgpiaaGreat
open Go.RowKit

theorem rletter10 (c : UInt8) (w : World) :
    Calls Tryz.prog 49 #[.int .i32 (wrap32 (c.toNat : Int))] w fun e w' => e = .returned (.bool (letterB c)) ∧ w = w' := by
  rw [wrap_byte]
  have hl : Hid (letterB c = ((decide (97 ≤ c.toNat) && decide (c.toNat ≤ 122)) || (decide (65 ≤ c.toNat) && decide (c.toNat ≤ 90)))) := rfl
  generalize c.toNat = n at *
  go_enter Tryz.func49, Tryz.ntmps49
  go_wp2_with fail
  all_goals
    go_ret
    refine ⟨ret_bool ?_, rfl⟩
    rw [hl.out, Bool.eq_iff_iff]
    simp only [Bool.or_eq_true, Bool.and_eq_true, decide_eq_true_eq, Bool.false_eq_true, true_iff, false_iff]
    omega

theorem rdigit_int (n : Nat) (w : World) :
    Calls Tryz.prog 84 #[.int .i32 (n : Int)] w fun e w' => e = .returned (.bool (decide (48 ≤ n) && decide (n ≤ 57))) ∧ w = w' := by
  go_enter Tryz.func84, Tryz.ntmps84
  go_wp2_with fail
  all_goals
    go_ret
    refine ⟨ret_bool ?_, rfl⟩
    rw [Bool.eq_iff_iff]
    simp only [Bool.and_eq_true, decide_eq_true_eq, Bool.false_eq_true, false_iff]
    omega
theorem rdigit_rune (c : UInt8) (w : World) :
    Calls Tryz.prog 84 #[.int .i32 (wrap32 (c.toNat : Int))] w fun e w' => e = .returned (.bool (digitB c)) ∧ w = w' := by
  rw [wrap_byte]
  exact rdigit_int c.toNat w
set_option maxHeartbeats 1000000 in
theorem rhex_rune (c : UInt8) (w : World) :
    Calls Tryz.prog 102 #[.int .i32 (wrap32 (c.toNat : Int))] w fun e w' => e = .returned (.tuple #[.int .i64 (hexV c : Nat), .bool (hexB c)]) ∧ w = w' := by
  rw [wrap_byte]
  have hl : Hid (hexB c = ((decide (48 ≤ c.toNat) && decide (c.toNat ≤ 57)) || (decide (97 ≤ c.toNat) && decide (c.toNat ≤ 102)) || (decide (65 ≤ c.toNat) && decide (c.toNat ≤ 70)))) := rfl
  have hv : Hid (hexV c = if 48 ≤ c.toNat ∧ c.toNat ≤ 57 then c.toNat - 48 else if 97 ≤ c.toNat ∧ c.toNat ≤ 102 then c.toNat - 87 else if 65 ≤ c.toNat ∧ c.toNat ≤ 70 then c.toNat - 55 else 0) := rfl
  have hlt : c.toNat < 256 := c.toNat_lt
  generalize hexB c = hb at *
  generalize hexV c = hx at *
  generalize c.toNat = n at *
  have HD := Lib.hid (rdigit_int n w)
  by_cases h1 : 48 ≤ n ∧ n ≤ 57
  · obtain ⟨h1a, h1b⟩ := h1
    rw [show (decide (48 ≤ n) && decide (n ≤ 57)) = true by simp; omega] at HD
    go_enter Tryz.func102, Tryz.ntmps102
    go_wp2_with fail
    refine HD.out.mono ?_
    rintro e w' ⟨rfl, rfl⟩
    go_wp2_with fail
    go_ret2
    refine ⟨ret_ib ?_ ?_, rfl⟩
    · rw [hv.out, if_pos ⟨h1a, h1b⟩]; omega
    · rw [hl.out, show (decide (48 ≤ n) && decide (n ≤ 57)) = true by simp; omega]; rfl
  · rw [show (decide (48 ≤ n) && decide (n ≤ 57)) = false by simp; omega] at HD
    have hv2 : Hid (hx = if 97 ≤ n ∧ n ≤ 102 then n - 87 else if 65 ≤ n ∧ n ≤ 70 then n - 55 else 0) := by show _ = _; rw [hv.out, if_neg h1]
    have hl2 : Hid (hb = ((decide (97 ≤ n) && decide (n ≤ 102)) || (decide (65 ≤ n) && decide (n ≤ 70)))) := by show _ = _; rw [hl.out, show (decide (48 ≤ n) && decide (n ≤ 57)) = false by simp; omega]; rfl
    clear hv hl h1
    go_enter Tryz.func102, Tryz.ntmps102
    go_wp2_with fail
    refine HD.out.mono ?_
    rintro e w' ⟨rfl, rfl⟩
    go_wp2_with fail
    all_goals
      go_ret2
      refine ⟨ret_ib ?_ ?_, rfl⟩
      · rw [hv2.out]; (repeat' split) <;> omega
      · rw [hl2.out, Bool.eq_iff_iff]; simp only [Bool.or_eq_true, Bool.and_eq_true, decide_eq_true_eq, Bool.false_eq_true, true_iff, false_iff]; omega
end Go.Proofs.YtdjeajbinpgpiaaGreat
