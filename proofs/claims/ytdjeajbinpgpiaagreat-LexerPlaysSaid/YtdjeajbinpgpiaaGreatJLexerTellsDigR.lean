/- arbourref10.digits. -/
import Derived.Test.YtdjeajbinpgpiaaGreatJLexerTellsNumR
import Derived.Test.YtdjeajbinpgpiaaGreatJLexerTells8
namespace Go.Proofs.YtdjeajbinpgpiaaGreat
open Go.RowKit

/-- A number that stands for v: v itself, or both too great. -/
def Near (n v : Nat) : Prop := capN n = capN v
theorem near_step {n v d base : Nat} (h : Near n v) (hn : n ≤ 1114111) : Near (n * base + d) (v * base + d) := by
  unfold Near capN at h
  have : n = v := by omega
  rw [this]; rfl
theorem near_big {n v d base : Nat} (h : Near n v) (hn : 1114111 < n) (hb : 1 ≤ base) : Near n (v * base + d) := by
  unfold Near capN at *
  have h1 : v ≤ v * base := Nat.le_mul_of_pos_right _ hb
  omega
theorem near_number {n v : Nat} (h : Near n v) : numberS n = numberS v := by rw [← numberS_cap n, ← numberS_cap v, h]

set_option maxHeartbeats 4000000 in
set_option maxRecDepth 100000 in
theorem digits_any (s : ByteArray) (k base : Nat) (w : World) (hs : s.size ≤ 65536) (hk : k ≤ s.size) (hb1 : 1 ≤ base) (hb2 : base ≤ 16) :
    Calls Tryz.prog 81 #[.string s, .int .i64 (k : Int), .int .i64 (base : Int)] w fun e w' => ∃ n : Nat, e = .returned (.tuple #[.int .i64 (n : Int), .int .i64 (stopL (digB base) (B s) k : Nat)]) ∧ Near n (numL base (pieceL (B s) k (stopL (digB base) (B s) k))) ∧ w = w' := by
  go_enter Tryz.func81, Tryz.ntmps81
  go_wp2_with fail
  go_loop [8, 1] (fun nv av => ∃ j n : Nat, k ≤ j ∧ j ≤ s.size ∧ n ≤ 18000000 ∧ Hid (stopL (digB base) (B s) j = stopL (digB base) (B s) k) ∧ Hid (Near n (numL base (pieceL (B s) k j))) ∧ av = .int .i64 j ∧ nv = .int .i64 n) (fun _ av => s.size - (intOf av).toNat)
  case atStart => exact ⟨k, 0, Nat.le_refl _, hk, by omega, rfl, (by show Near 0 _; unfold pieceL; rw [Nat.sub_self]; rfl), rfl, rfl⟩
  case round =>
    obtain ⟨j, n, hkj, hj, hn, H1, H2, rfl, rfl⟩ := hrel
    by_cases hlt : j < s.size
    · have hdec := digB_parts (base := base) (c := s[j])
      have hx := hexV_le s[j]
      cases hd : digB base s[j] with
      | true =>
        have HST := Lib.hid ((stopB_step (digB base) s j hlt hd).trans H1.out)
        have hsn : numL base (pieceL (B s) k (j + 1)) = numL base (pieceL (B s) k j) * base + hexV s[j] := by rw [piece_snoc s k j hkj hlt, numL_snoc]
        have HSN := Lib.hid hsn
        rw [hd] at hdec
        have hh : hexB s[j] = true := by
          cases h : hexB s[j] with
          | true => rfl
          | false => rw [h] at hdec; cases hdec
        rw [hh] at hdec
        have hv : hexV s[j] < base := by simpa using hdec.symm
        have HX := rhex_rune s[j]
        rw [hh] at HX
        have HXX := Lib.hid HX
        generalize hexV s[j] = x at *
        clear hsn hdec hh HX hd
        have t1 : decide ((base : Int) ≤ (x : Int)) = false := by simp; omega
        by_cases hbig : n ≤ 1114111
        · have hm : n * base ≤ 17825776 := by
            have := Nat.mul_le_mul hbig hb2; omega
          have hp0 : (0 : Int) ≤ (n : Int) * (base : Int) := by rw [← Int.natCast_mul]; omega
          have hp1 : (n : Int) * (base : Int) ≤ 17825776 := by rw [← Int.natCast_mul]; omega
          have t2 : decide ((n : Int) ≤ 1114111) = true := by simp; omega
          have HNE : Hid (Near (n * base + x) (numL base (pieceL (B s) k (j + 1)))) := by show Near _ _; rw [HSN.out]; exact near_step H2.out hbig
          go_wp2_with fail
          refine (HXX.out _).mono ?_
          rintro e w' ⟨rfl, rfl⟩
          go_wp2_with fail
          go_round
          case rel => exact ⟨j + 1, n * base + x, by omega, by omega, by omega, HST, HNE, by go_num, by congr 1⟩
          case measure => simp [intOf]; omega
        · have t2 : decide ((n : Int) ≤ 1114111) = false := by simp; omega
          have HNE : Hid (Near n (numL base (pieceL (B s) k (j + 1)))) := by show Near _ _; rw [HSN.out]; exact near_big H2.out (by omega) hb1
          go_wp2_with fail
          refine (HXX.out _).mono ?_
          rintro e w' ⟨rfl, rfl⟩
          go_wp2_with fail
          go_round
          case rel => exact ⟨j + 1, n, by omega, by omega, by omega, HST, HNE, by go_num, rfl⟩
          case measure => simp [intOf]; omega
      | false =>
        have HST := Lib.hid (H1.out.symm.trans (stopB_stop (digB base) s j hlt hd))
        rw [hd] at hdec
        have HX := rhex_rune s[j]
        have hor : hexB s[j] = false ∨ (hexB s[j] = true ∧ decide (base ≤ hexV s[j]) = true) := by
          cases h : hexB s[j] with
          | false => exact .inl rfl
          | true =>
            rw [h] at hdec
            refine .inr ⟨rfl, ?_⟩
            simp only [Bool.true_and] at hdec
            have := of_decide_eq_false hdec.symm
            simp; omega
        clear hdec hd
        rcases hor with hor | ⟨hor, t1⟩
        all_goals
          rw [hor] at HX
          have HXX := Lib.hid HX
          clear HX hor
          generalize hexV s[j] = x at *
          go_wp2_with fail
          refine (HXX.out _).mono ?_
          rintro e w' ⟨rfl, rfl⟩
          go_wp2_with fail
          go_ret2
          exact ⟨n, by rw [HST.out]; rfl, by rw [HST.out]; exact H2.out, rfl⟩
    · have HST := Lib.hid (H1.out.symm.trans (stopB_end (digB base) s j hlt))
      go_wp2_with fail
      go_ret2
      exact ⟨n, by rw [HST.out]; rfl, by rw [HST.out]; exact H2.out, rfl⟩
end Go.Proofs.YtdjeajbinpgpiaaGreat
