/- LexerPlain, walked. -/
import Derived.Test.YtdjeajbinpgpiaaLexPl
import Derived.Test.YtdjeajbinpgpiaaLexA0
import Derived.Test.YtdjeajbinpgpiaaKeepH
import Derived.LoopN
import Derived.Deep.CutBlock
import Derived.Deep.DeepCutAuto
namespace Go.Proofs.Ytdjeajbinpgpiaa
open Go.RowKit

theorem B_add (a b : ByteArray) : B (a ++ b) = B a ++ B b := by
  unfold B
  simp only [ByteArray.data_append, Array.toList_append]
set_option maxHeartbeats 4000000 in
set_option maxRecDepth 100000 in
theorem walk_LexerPlain (a0 : ByteArray) (w0 : a0.size ≤ maxLen) (w : World) (hL : Lax w) :
    Calls Try.prog 3 #[.string a0] w fun e w' => e = .returned (.bool true) ∧ Below w.heap.size w w' := by
  unfold maxLen at w0
  have hh := headB_le a0 100
  have HH := Lib.hid (fun w => head_any a0 100 w (by decide) (by omega))
  rw [show (100 : Int).toNat = 100 from rfl] at HH
  generalize headB a0 100 = h at *
  have HL := Lib.hid hL
  have HKN := Lib.hid (fun W (hW : Below w.heap.size w W) => lex_known W (hL.below hW))
  clear hL w0
  go_enter Try.func3, Try.ntmps3
  go_wp2_with fail
  refine (HH.out _).mono ?_
  rintro e w1 ⟨rfl, rfl⟩
  go_upto_block 0 with (fail)
  go_cut [3] (fun s3 wx => ∃ q : ByteArray, s3 = .string q ∧ Hid (B q = escX (B h)) ∧ wx = w)
  case first =>
    go_wp2_with fail
    go_loopw [3, 4] (fun qv iv wr => ∃ (k : Nat) (q : ByteArray), k ≤ h.size ∧ qv = .string q ∧ iv = .int .i64 k ∧ Hid (B q = escX ((B h).take k)) ∧ wr = w) (fun _ iv _ => h.size - (intOf iv).toNat)
    case atStart => exact ⟨0, ⟨#[]⟩, Nat.zero_le _, rfl, rfl, rfl, rfl⟩
    case round =>
      obtain ⟨k, q, hk, rfl, rfl, HQ, rfl⟩ := hrel
      by_cases hlt : k < h.size
      · have d0 : decide ((k : Int) < (h.size : Int)) = true := decide_eq_true (by omega)
        have hbc := B_at h k hlt
        have hst := escX_take hbc
        rw [← HQ.out] at hst
        have hqs : q.size ≤ 500 := by
          have h1 := escX_len ((B h).take k)
          rw [← HQ.out, ← size_B, List.length_take] at h1
          omega
        have s1 : IntKind.i64.wrap ((k : Int) + 1) = (k : Int) + 1 := IntWalk.i64_in _ (by omega)
        have i0 : (0 : Int) ≤ (k : Int) := by omega
        have i1 : (k : Int) < (h.size : Int) := by omega
        by_cases h60 : h[k] = 60
        · have d1 : ((h[k].toNat : Int) == 60) = true := by rw [h60]; rfl
          have HN := Lib.hid (show B (q ++ ⟨#[38, 108, 116, 59]⟩) = escX ((B h).take (k + 1)) by rw [hst, B_add, h60]; rfl)
          have q1 : q.size + (⟨#[38, 108, 116, 59]⟩ : ByteArray).size ≤ 9223372036854775807 := by show q.size + 4 ≤ _; omega
          clear hbc hst h60
          go_wp2_with fail
          exact ⟨⟨k + 1, _, by omega, rfl, by go_num, HN.out, by first | rfl | trivial⟩, by simp [intOf]; omega⟩
        have d1 : ((h[k].toNat : Int) == 60) = false := by
          rw [beq_eq_false_iff_ne]
          exact fun e => h60 (UInt8.toNat_inj.1 (by show _ = 60; omega))
        by_cases h38 : h[k] = 38
        · have d2 : ((h[k].toNat : Int) == 38) = true := by rw [h38]; rfl
          have HN := Lib.hid (show B (q ++ ⟨#[38, 97, 109, 112, 59]⟩) = escX ((B h).take (k + 1)) by rw [hst, B_add, h38]; rfl)
          have q1 : q.size + (⟨#[38, 97, 109, 112, 59]⟩ : ByteArray).size ≤ 9223372036854775807 := by show q.size + 5 ≤ _; omega
          clear hbc hst h60 h38
          go_wp2_with fail
          exact ⟨⟨k + 1, _, by omega, rfl, by go_num, HN.out, by first | rfl | trivial⟩, by simp [intOf]; omega⟩
        · have d2 : ((h[k].toNat : Int) == 38) = false := by
            rw [beq_eq_false_iff_ne]
            exact fun e => h38 (UInt8.toNat_inj.1 (by show _ = 38; omega))
          have hone : B (h.extract k (k + 1)) = [h[k]] := by
            rw [B_piece, drop_at h k hlt, show k + 1 - k = 1 by omega]; rfl
          have HN := Lib.hid (show B (q ++ h.extract k (k + 1)) = escX ((B h).take (k + 1)) by rw [hst, B_add, hone]; unfold escX1; rw [if_neg h60, if_neg h38])
          have hxs : (h.extract k (k + 1)).size = 1 := by rw [size_B, hone]; rfl
          have q1 : q.size + (h.extract k (k + 1)).size ≤ 9223372036854775807 := by omega
          have i2 : (k : Int) ≤ (k : Int) + 1 := by omega
          have i3 : (k : Int) + 1 ≤ (h.size : Int) := by omega
          clear hbc hst h60 h38 hone
          go_wp2_with fail
          exact ⟨⟨k + 1, _, by omega, rfl, by go_num, HN.out, by first | rfl | trivial⟩, by simp [intOf]; omega⟩
      · have d0 : decide ((k : Int) < (h.size : Int)) = false := decide_eq_false (by omega)
        have he : (B h).take k = B h := List.take_of_length_le (by rw [← size_B]; omega)
        rw [he] at HQ
        clear he
        go_wp2_with fail
        go_meet
        exact ⟨q, rfl, HQ.out, rfl⟩
  case rest =>
    obtain ⟨q, rfl, HQ, rfl⟩ := hcut
    have hqs : q.size ≤ 500 := by
      have h1 := escX_len (B h)
      rw [← HQ.out, ← size_B, ← size_B] at h1
      omega
    have HA := Lib.hid (lall_any q wc (by omega) HL.out)
    rw [HQ.out, toks_esc] at HA
    by_cases hz : h = ⟨#[]⟩
    · subst hz
      rw [if_pos (show B (⟨#[]⟩ : ByteArray) = [] from rfl)] at HA
      have e0 : ((⟨#[]⟩ : ByteArray).toList == []) = true := by decide +kernel
      go_wp2_with fail
      refine HA.out.mono ?_
      rintro e w2 ⟨v, out, rfl, hr, hm, b2⟩
      obtain ⟨m0, rfl, h0⟩ := one_of hm
      obtain ⟨g, c, rfl, hc⟩ := hr.at (by simp)
      have c0 : w2.cell? ⟨g, 0, none⟩ = some (.int .i64 6) := by have := (hc 0 m0 rfl).1; rw [h0] at this; exact this
      have HB := Lib.hid b2
      clear hr hm hc b2 h0
      go_wp2_with fail
      refine (HKN.out _ HB.out).mono ?_
      rintro e w3 ⟨rfl, b3⟩
      have HB3 := Lib.hid (below_then HB.out HB.out.size b3)
      clear b3
      go_wp2_with fail
      go_ret
      exact ⟨rfl, HB3.out⟩
    · have hb0 : B h ≠ [] := fun e => hz (B_inj e)
      rw [if_neg hb0] at HA
      have e0 : (h.toList == []) = false := by rw [toList_B, beq_eq_false_iff_ne]; exact hb0
      have t1 : (h.toList == h.toList) = true := by simp
      clear hz hb0
      go_wp2_with fail
      refine HA.out.mono ?_
      rintro e w2 ⟨v, out, rfl, hr, hm, b2⟩
      obtain ⟨m0, m1, rfl, h0, h1⟩ := two_of hm
      obtain ⟨g, c, rfl, hc⟩ := hr.at (by simp)
      have c0 : w2.cell? ⟨g, 0, none⟩ = some (.int .i64 4) := by have := (hc 0 m0 rfl).1; rw [h0] at this; exact this
      have c1 : w2.cell? ⟨g, 4, none⟩ = some (.string h) := by have := (hc 0 m0 rfl).2.2; rw [h0] at this; unfold txtT at this; rw [S_B] at this; exact this
      have c2 : w2.cell? ⟨g, 5, none⟩ = some (.int .i64 6) := by have := (hc 1 m1 rfl).1; rw [h1] at this; exact this
      have HB := Lib.hid b2
      clear hr hm hc b2 h0 h1
      go_wp2_with fail
      refine (HKN.out _ HB.out).mono ?_
      rintro e w3 ⟨rfl, b3⟩
      have HB3 := Lib.hid (below_then HB.out HB.out.size b3)
      clear b3
      go_wp2_with fail
      go_ret
      exact ⟨rfl, HB3.out⟩
end Go.Proofs.Ytdjeajbinpgpiaa
