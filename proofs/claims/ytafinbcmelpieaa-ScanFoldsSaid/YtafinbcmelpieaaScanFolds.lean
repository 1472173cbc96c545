/- ScanFolds, walked. -/
import Derived.Test.YtafinbcmelpieaaScanL
namespace Go.Proofs.Ytafinbcmelpieaa
open Go.RowKit

set_option maxHeartbeats 800000 in
theorem walk_ScanFolds (a0 : ByteArray) (a1 a2 : Int) (w0 : a0.size ≤ maxLen) (w : World) (hL : Lax w) :
    Calls Try.prog 3 #[.string a0, .int .i64 a1, .int .i64 a2] w fun e w' => e = .returned (.bool true) ∧ Below w.heap.size w w' := by
  unfold maxLen at w0
  have hs := headB_le a0 60
  go_enter Try.func3, Try.ntmps3
  go_wp2_with fail
  refine (head_any _ _ _ (by omega) (by omega)).mono ?_
  rintro e w1 ⟨rfl, rfl⟩
  rw [show (60 : Int).toNat = 60 from rfl]
  generalize headB a0 60 = s at *
  go_wp2_with fail
  refine (bwithin_any _ _ _ _ (by omega) (by omega) (by omega)).mono ?_
  rintro e w1 ⟨rfl, rfl⟩
  obtain ⟨i, hi, hi1, hi2⟩ := nat_of (Int.le_refl 0) (withinI_bd a1 0 s.size (by omega))
  rw [hi]
  clear hi
  go_wp2_with fail
  refine (bwithin_any _ _ _ _ (by omega) (by omega) (by omega)).mono ?_
  rintro e w1 ⟨rfl, rfl⟩
  obtain ⟨j, hj, hj1, hj2⟩ := nat_of hi1 (withinI_bd a2 i s.size (by omega))
  rw [hj]
  clear hj
  have hp := B_piece s i j
  have hps : (s.extract i j).size = j - i := by
    rw [size_B, hp, List.length_take, List.length_drop, ← size_B]
    omega
  have HP := Lib.hid hp
  clear hp
  have kb := fun W => Lib.run_convert_string_bytes (P := Try.prog) W 9 24 5 (s.extract i j) Try.underlying9 Try.underlying24 Try.underlying5
  have HK := Lib.hid hps
  go_wp2_with fail
  generalize hpp : s.extract i j = p at *
  have HPP := Lib.hid hpp
  clear hpp
  have hb0 := bytes_below w 5 p
  obtain ⟨C0, hC0, hS0, hG0⟩ := bytes_blk w 5 p
  generalize Lib.bytesWorld w 5 p = w1 at *
  go_loopw [9] (fun i wr => ∃ (m : Nat) (C : Array Value), m ≤ p.size ∧ i = .int .i64 m ∧ Below w.heap.size w wr ∧ Blk wr w.heap.size 5 C (C.size, C.size + 1) ∧ p.size ≤ C.size ∧
      (∀ (i : Nat) (h : i < p.size), C[i]? = some (.int .u8 ((if i < m then upB p[i] else p[i]).toNat : Int)))) (fun i _ => p.size - (intOf i).toNat)
  case atStart => exact ⟨0, C0, Nat.zero_le _, rfl, hb0, hC0, hS0, fun i h => by rw [if_neg (by omega)]; exact hG0 i h⟩
  case round =>
    obtain ⟨m, C, hm, rfl, hb, hC, hS, hG⟩ := hrel
    have HB := Lib.hid hb
    have HC := Lib.hid hC
    have HG := Lib.hid hG
    have hL1 := hL.below hb
    clear hb hC hG hC0 hG0 hb0
    by_cases hlt : m < p.size
    · have hc1 := (HC.out.cell m).trans (HG.out m hlt)
      rw [if_neg (by omega)] at hc1
      have hf1 := HC.out.frozen m (.inl (by simp; omega))
      have hlo := upB_toNat p[m]
      have hx := p[m].toNat_lt
      generalize hxx : p[m].toNat = x at *
      have HX := Lib.hid hxx
      have HU := Lib.hid hlo
      clear hxx hlo
      go_wp2_with fail
      · have h1 : 97 ≤ (x : Int) := by assumption
        have h2 : (x : Int) ≤ 122 := by assumption
        have e : ((x : Int) - 32) = ((upB p[m]).toNat : Int) := by rw [HU.out, if_pos ⟨by omega, by omega⟩]; omega
        rw [e]
        refine ⟨⟨m + 1, C.setIfInBounds m (.int .u8 ((upB p[m]).toNat : Int)), by omega, by go_num, HB.out.setCell (Nat.le_refl _) _, by simpa using HC.out.set m _, by simpa using hS, fun i h => ?_⟩, by simp [intOf]; omega⟩
        rw [Array.getElem?_setIfInBounds]
        by_cases hij : m = i
        · subst hij
          rw [if_pos rfl, if_pos (by omega), if_pos (by omega)]
        · rw [if_neg hij, HG.out i h]
          by_cases hlt' : i < m
          · rw [if_pos hlt', if_pos (by omega)]
          · rw [if_neg hlt', if_neg (by omega)]
      all_goals
        have e : (upB p[m]).toNat = p[m].toNat := by
          rw [HU.out, HX.out, if_neg]
          omega
        refine ⟨⟨m + 1, C, by omega, by go_num, HB.out, HC.out, hS, fun i h => ?_⟩, by simp [intOf]; omega⟩
        rw [HG.out i h]
        by_cases hij : m = i
        · subst hij
          rw [if_neg (by omega), if_pos (by omega), e]
        · by_cases hlt' : i < m
          · rw [if_pos hlt', if_pos (by omega)]
          · rw [if_neg hlt', if_neg (by omega)]
    · have hlu : (upL (B p)).length = p.size := by rw [upL_length, ← size_B]
      have hk := fun (n : After wr) (cap : Nat) => back_of_bytes (P := Try.prog) n.W 24 9 5 w.heap.size cap p.size (upL (B p)) hlu Try.underlying24 Try.underlying5 Try.underlying9
        (fun i hi => by
          have hi' : i < p.size := by rw [hlu] at hi; exact hi
          rw [((HC.out.keep n.below).cell i), HG.out i hi', if_pos (by omega)]
          simp only [upL, List.getElem_map]
          rw [B_get p i hi' (by rw [← size_B]; exact hi')]
          rfl)
      have hsz : (S (upL (B p))).size ≤ 60 := by rw [size_S, hlu]; omega
      have hpz : p.size ≤ 60 := by omega
      have e1 : startsL (B s) (B p) i = true := by rw [HP.out]; exact occ_piece _ _ _
      have e2 : foldL (B s) (B p) i = true := by rw [HP.out]; exact fold_piece _ _ _
      have e3 : foldL (B s) (upL (B p)) i = true := by rw [fold_of_low _ _ _ _ (low_up _)]; exact e2
      have e4 : startsL (B s) (upL (B p)) i = (upL (B p) == B p) := by
        rw [HP.out]
        exact occ_eq _ _ _ _ (by rw [upL_length])
      have hpp := HPP.out
      subst hpp
      have h1 : ∀ W, Calls Try.prog 15 #[.string s, .int .i64 (i : Int), .string (s.extract i j)] W fun e w' => e = .returned (.bool true) ∧ W = w' := fun W => by
        have h := starts_at s (s.extract i j) i W (by omega) (by omega)
        rwa [e1] at h
      have h2 : ∀ W, Calls Try.prog 16 #[.string s, .int .i64 (i : Int), .string (s.extract i j)] W fun e w' => e = .returned (.bool true) ∧ Below W.heap.size W w' := fun W => by
        have h := fold_at s (s.extract i j) i W (by omega) (by omega) (by omega)
        rwa [e2] at h
      have h3 : ∀ W, Calls Try.prog 16 #[.string s, .int .i64 (i : Int), .string ⟨(upL (B (s.extract i j))).toArray⟩] W fun e w' => e = .returned (.bool true) ∧ Below W.heap.size W w' := fun W => by
        have h := fold_at s (S (upL (B (s.extract i j)))) i W (by omega) (by omega) (by omega)
        rwa [B_S, e3] at h
      have h4 : ∀ W, Calls Try.prog 15 #[.string s, .int .i64 (i : Int), .string ⟨(upL (B (s.extract i j))).toArray⟩] W fun e w' => e = .returned (.bool (upL (B (s.extract i j)) == B (s.extract i j))) ∧ W = w' := fun W => by
        have h := starts_at s (S (upL (B (s.extract i j)))) i W (by omega) (by omega)
        rwa [B_S, e4] at h
      have h5 : ((⟨(upL (B (s.extract i j))).toArray⟩ : ByteArray).toList == (s.extract i j).toList) = (upL (B (s.extract i j)) == B (s.extract i j)) := by
        rw [toList_B, toList_B]
        rfl
      generalize (upL (B (s.extract i j)) == B (s.extract i j)) = b at *
      generalize hU : (⟨(upL (B (s.extract i j))).toArray⟩ : ByteArray) = U at *
      clear e1 e2 e3 e4 hU HP HPP HK hlu
      simp only [hps] at hk
      have H1 := Lib.hid h1
      have H2 := Lib.hid h2
      have H3 := Lib.hid h3
      have H4 := Lib.hid h4
      clear h1 h2 h3 h4
      go_wp2_with fail
      refine wp_region_after (by kernel_rfl) (by kernel_rfl) ?_
      repeat (any_goals (quiet_step ((first
        | (go_at_call 15; first | with_reducible exact call_same (H1.out _) | with_reducible exact call_same (H4.out _))
        | (go_at_call 16; first | with_reducible exact call_after (H2.out _) | with_reducible exact call_after (H3.out _))
        | (go_at_call 17; exact call_after (known_any _ (hL1.below (After.below _))))))))
      refine wpQuiet_nil ?_
      rintro w' ⟨n, rfl⟩
      go_wp2_with fail
      go_ret
      exact ⟨rfl, below_then HB.out HB.out.size n.below⟩
end Go.Proofs.Ytafinbcmelpieaa
