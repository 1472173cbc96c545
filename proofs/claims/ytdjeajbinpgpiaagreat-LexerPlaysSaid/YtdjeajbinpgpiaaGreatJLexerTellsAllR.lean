/- arbourref10.All. -/
import Derived.Test.YtdjeajbinpgpiaaGreatJLexerTellsReadR
import Derived.Test.YtdjeajbinpgpiaaGreatJLexerTells12
namespace Go.Proofs.YtdjeajbinpgpiaaGreat
open Go.RowKit

theorem S_app (a b : List UInt8) : S a ++ S b = S (a ++ b) := by
  apply B_inj
  unfold B S
  simp only [ByteArray.data_append, Array.toList_append]
theorem piece_one (s : ByteArray) (k : Nat) (h : k < s.size) : s.extract k (k + 1) = S [s[k]] := by
  rw [S_piece]
  unfold pieceL
  rw [drop_at s k h, show k + 1 - k = 1 by omega]
  rfl

set_option maxHeartbeats 4000000 in
set_option maxRecDepth 100000 in
theorem rall_any (s : ByteArray) (attr : Bool) (w : World) (hs : s.size ≤ 65536) :
    Calls Tryz.prog 45 #[.string s, .bool attr] w fun e w' => e = .returned (.string (S (allR attr (B s)))) ∧ Below w.heap.size w w' := by
  have hL : (B s).length = s.size := (size_B s).symm
  have HLL := Lib.hid hL
  clear hL
  go_enter Tryz.func45, Tryz.ntmps45
  go_wp2_with fail
  go_loopw [5, 6] (fun o i wr => ∃ (k : Nat) (acc : List UInt8), k ≤ s.size ∧ i = .int .i64 k ∧ o = .string (S acc) ∧ Hid (acc ++ allR attr ((B s).drop k) = allR attr (B s)) ∧ Hid (acc.length ≤ 6 * k) ∧ Below w.heap.size w wr) (fun _ i _ => s.size - (intOf i).toNat)
  case atStart => exact ⟨0, [], Nat.zero_le _, rfl, rfl, rfl, Nat.zero_le _, Below.refl _ _⟩
  case round =>
    obtain ⟨k, acc, hk, rfl, rfl, HA, HZ, hB⟩ := hrel
    have HBr := Lib.hid hB
    clear hB
    by_cases hlt : k < s.size
    · have hza : (S acc).size ≤ 6 * k := by rw [size_S]; exact HZ.out
      by_cases h38 : s[k] = 38
      · have hamp : ((B s).drop k).head? = some 38 := by rw [head_at hlt, h38]
        have HRD := Lib.hid (rfread_any s wr attr hs (k : Int))
        have hrr := readR_at attr (B s) k hamp
        have hnx := all_next attr hamp
        have hfc := refS_facts attr ((B s).drop k) (by rw [List.length_drop, HLL.out]; omega)
        rw [List.length_drop, HLL.out] at hfc
        rw [hrr] at HRD
        generalize refS attr ((B s).drop k) = r at *
        obtain ⟨rt, rn⟩ := r
        simp only at hfc hnx HRD
        have hr1 : 1 ≤ rn := hfc.1
        have hr2 : k + rn ≤ s.size := by have := hfc.2.1; omega
        have hsz : (S rt).size ≤ 6 * rn := size_le_S hfc.2.2.2
        have hsum : (S acc).size + (S rt).size ≤ 9223372036854775807 := by omega
        have HA2 : Hid ((acc ++ rt) ++ allR attr ((B s).drop (k + rn)) = allR attr (B s)) := by
          show _ = _
          rw [← HA.out, hnx, List.append_assoc]
        have HZ2 : Hid ((acc ++ rt).length ≤ 6 * (k + rn)) := by
          show _ ≤ _
          rw [List.length_append]
          have := HZ.out
          have := hfc.2.2.2
          omega
        have d0 : ((s[k].toNat : Int) == 38) = true := by rw [h38]; rfl
        have HSA := Lib.hid (S_app acc rt)
        clear hamp hrr hnx hfc h38
        go_wp2_with fail
        refine HRD.out.mono ?_
        rintro e w1 ⟨rfl, hb1⟩
        have HB1 := Lib.hid (below_then HBr.out HBr.out.size hb1)
        clear hb1
        unfold valR
        go_wp2_with fail
        refine ⟨⟨k + rn, acc ++ rt, hr2, by go_num, by rw [← HSA.out], HA2, HZ2, HB1.out⟩, by simp [intOf]; omega⟩
      · have d0 : ((s[k].toNat : Int) == 38) = false := by
          rw [beq_eq_false_iff_ne]; intro e; exact h38 (UInt8.toNat_inj.1 (by show _ = 38; omega))
        have hone := piece_one s k hlt
        have hext : (s.extract k (k + 1)).size = 1 := by rw [hone]; rfl
        have hsum : (S acc).size + (s.extract k (k + 1)).size ≤ 9223372036854775807 := by rw [hext]; omega
        have HSA : Hid (S acc ++ s.extract k (k + 1) = S (acc ++ [s[k]])) := by show _ = _; rw [hone, S_app]
        have HA2 : Hid ((acc ++ [s[k]]) ++ allR attr ((B s).drop (k + 1)) = allR attr (B s)) := by
          show _ = _
          rw [← HA.out, drop_at s k hlt, allR_other attr _ _ h38, List.append_assoc]
          rfl
        have HZ2 : Hid ((acc ++ [s[k]]).length ≤ 6 * (k + 1)) := by
          show _ ≤ _
          rw [List.length_append]
          have := HZ.out
          simp only [List.length_cons, List.length_nil]
          omega
        clear hone hext h38
        go_wp2_with fail
        refine ⟨⟨k + 1, acc ++ [s[k]], by omega, by go_num, by rw [← HSA.out], HA2, HZ2, HBr.out⟩, by simp [intOf]; omega⟩
    · obtain rfl : k = s.size := by omega
      have hfin : acc = allR attr (B s) := by
        rw [← HA.out, List.drop_eq_nil_of_le (by rw [HLL.out]; exact Nat.le_refl _), allR_nil, List.append_nil]
      have HFI := Lib.hid hfin
      clear hfin
      go_wp2_with fail
      go_ret
      exact ⟨ret_str (by rw [HFI.out]), HBr.out⟩
end Go.Proofs.YtdjeajbinpgpiaaGreat
