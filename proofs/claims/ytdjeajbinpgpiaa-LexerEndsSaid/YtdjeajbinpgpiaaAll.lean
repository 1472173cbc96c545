/- ref.All. -/
import Derived.Test.YtdjeajbinpgpiaaRead
import Derived.Test.YtdjeajbinpgpiaaBuilder
namespace Go.Proofs.Ytdjeajbinpgpiaa
open Go.RowKit

theorem findK (s : ByteArray) (k : Nat) (sub : ByteArray) (w : World) (hs : s.size ≤ 65536) (hw : Lax w) (hk : k ≤ s.size) :
    Calls Try.prog 28 #[.string s, .int .i64 (k : Int), .string sub] w fun e w' => e = .returned (.int .i64 (findL (B s) (B sub) k : Nat)) ∧ w = w' := by
  have := find_any s (k : Int) sub w (by omega) hw
  rw [clampN_nat k s.size hk] at this
  exact this
theorem amp_at {s : ByteArray} {k to : Nat} (hk : k ≤ s.size) (h : findL (B s) [38] k = to) (hlt : to < s.size) : ((B s).drop to).head? = some 38 := by
  have hk' : k ≤ (B s).length := by rw [← size_B]; exact hk
  rw [find_byte _ _ _ hk'] at h
  have hlt' : stopL (fun x => x != 38) (B s) k < (B s).length := by rw [h, ← size_B]; exact hlt
  have := stopL_at (fun x => x != 38) (B s) k hk' hlt'
  rw [List.head?_drop, ← h, List.getElem?_eq_getElem hlt']
  simpa [bne] using this
theorem all_next (attr : Bool) {l : List UInt8} {to : Nat} (h : (l.drop to).head? = some 38) : allR attr (l.drop to) = (refS attr (l.drop to)).1 ++ allR attr (l.drop (to + (refS attr (l.drop to)).2)) := by
  cases hd : l.drop to with
  | nil => rw [hd] at h; cases h
  | cons c r =>
    rw [hd] at h
    obtain rfl : c = 38 := Option.some.inj h
    rw [allR_amp, ← hd, List.drop_drop]
theorem size_le_S {l : List UInt8} {n : Nat} (h : l.length ≤ n) : (S l).size ≤ n := by rw [size_S]; exact h

set_option maxHeartbeats 4000000 in
set_option maxRecDepth 100000 in
theorem all_any (s : ByteArray) (attr : Bool) (w : World) (hs : s.size ≤ 65536) (hw : Lax w) :
    Calls Try.prog 29 #[.string s, .bool attr] w fun e w' => e = .returned (.string (S (allR attr (B s)))) ∧ Below w.heap.size w w' := by
  have HN := Lib.hid (Bld.new w)
  have HB := Lib.hid ((Below.refl w.heap.size w).alloc (Nat.le_refl _) (.cells #[.pointer none, .slice none 0 0] 68))
  have HW := Lib.hid hw
  have hL : (B s).length = s.size := (size_B s).symm
  have HLL := Lib.hid hL
  clear hw hL
  go_enter Try.func29, Try.ntmps29
  go_wp2_with fail
  go_loopw [6] (fun i wr => ∃ (k : Nat) (acc : List UInt8), k ≤ s.size ∧ i = .int .i64 k ∧ Hid (acc ++ allR attr ((B s).drop k) = allR attr (B s)) ∧ Hid (acc.length ≤ 6 * k) ∧ Bld wr w.heap.size w.heap.size acc ∧ Below w.heap.size w wr) (fun i _ => s.size - (intOf i).toNat)
  case atStart => exact ⟨0, [], Nat.zero_le _, rfl, rfl, Nat.zero_le _, HN.out, HB.out⟩
  case round =>
    obtain ⟨k, acc, hk, rfl, HA, HZ, hD, hB⟩ := hrel
    have HD := Lib.hid hD
    have HBr := Lib.hid hB
    clear hD hB
    by_cases hlt : k < s.size
    · have HF := Lib.hid (findK s k ⟨#[38]⟩ wr hs (HW.out.below HBr.out) hk)
      rw [show B ⟨#[38]⟩ = [38] from rfl] at HF
      have h1 := findL_ge (B s) [38] k (by rw [HLL.out]; exact hk)
      have h2 := findL_le (B s) [38] k (by rw [HLL.out]; exact hk)
      rw [HLL.out] at h2
      have hround := allR_round attr (B s) k (by rw [HLL.out]; exact hk)
      have hto := fun h => amp_at hk (rfl : findL (B s) [38] k = _) h
      generalize findL (B s) [38] k = to at *
      have hpl : (S (pieceL (B s) k to)).size = to - k := by rw [size_S, pieceL_len _ _ _ h1 (by rw [HLL.out]; exact h2)]
      have HPL := Lib.hid hpl
      have HRD := Lib.hid (fun w => read_any s w attr hs (to : Int))
      clear hpl
      by_cases hts : to < s.size
      · have hamp := hto hts
        have hrr := readR_at attr (B s) to hamp
        have hnx := all_next attr hamp
        have hfc := refS_facts attr ((B s).drop to) (by rw [List.length_drop, HLL.out]; omega)
        rw [List.length_drop, HLL.out] at hfc
        rw [hrr] at HRD
        generalize refS attr ((B s).drop to) = r at *
        obtain ⟨rt, rn⟩ := r
        simp only at hfc hnx HRD
        have hsz : (S rt).size ≤ 6 * rn := size_le_S hfc.2.2.2
        have HSZ := Lib.hid hsz
        have hr1 : 1 ≤ rn := hfc.1
        have hr2 : to + rn ≤ s.size := by have := hfc.2.1; omega
        have HA2 : Hid ((acc ++ B (s.extract k to)) ++ B (S rt) ++ allR attr ((B s).drop (to + rn)) = allR attr (B s)) := by
          show _ = _
          rw [← HA.out, hround, hnx, B_piece, B_S]
          unfold pieceL
          simp only [List.append_assoc]
        have HZ2 : Hid (((acc ++ B (s.extract k to)) ++ B (S rt)).length ≤ 6 * (to + rn)) := by
          show _ ≤ _
          rw [List.length_append, List.length_append, B_S]
          have := HZ.out
          have e1 : (B (s.extract k to)).length = to - k := by rw [← HPL.out, S_piece, size_S]; rfl
          rw [e1]
          have := hfc.2.2.2
          omega
        have hmx : max ((to + rn : Nat) : Int) (to : Int) = ((to + rn : Nat) : Int) := by omega
        clear hto hamp hrr hnx hfc hround hsz
        go_wp2_with fail
        refine HF.out.mono ?_
        rintro e w1 ⟨rfl, rfl⟩
        go_wp2_with fail
        refine (write_any _ _ acc (s.extract k to) wr HD.out (by have := HZ.out; have := size_extract_le s k to; omega) HBr.out.size).mono ?_
        rintro e w1 ⟨rfl, hd1, hb1⟩
        have HD1 := Lib.hid hd1
        have HB1 := Lib.hid (HBr.out.trans hb1)
        clear hd1 hb1
        go_wp2_with fail
        refine (HRD.out _).mono ?_
        rintro e w2 ⟨rfl, hb2⟩
        have HD2 := Lib.hid (HD1.out.keep hb2)
        have HB2 := Lib.hid (below_then HB1.out HB1.out.size hb2)
        clear hb2
        unfold valR
        go_wp2_with fail
        refine (write_any _ _ (acc ++ B (s.extract k to)) (S rt) w2 HD2.out (by
          have h3 := HZ.out; have h4 := size_extract_le s k to; have h5 := HSZ.out
          rw [List.length_append, ← size_B]; omega) HB2.out.size).mono ?_
        rintro e w3 ⟨rfl, hd3, hb3⟩
        have HD3 := Lib.hid hd3
        have HB3 := Lib.hid (HB2.out.trans hb3)
        clear hd3 hb3
        go_wp2_with fail
        refine ⟨⟨to + rn, _, hr2, by congr 1, HA2, HZ2, HD3.out, HB3.out⟩, by simp [intOf]; omega⟩
      · obtain rfl : to = s.size := by omega
        have hrr := readR_no attr (B s) (s.size : Int) (.inr (.inl (by rw [HLL.out]; omega)))
        rw [hrr] at HRD
        have HA2 : Hid ((acc ++ B (s.extract k s.size)) ++ B (S []) ++ allR attr ((B s).drop s.size) = allR attr (B s)) := by
          show _ = _
          rw [← HA.out, hround, B_piece, B_S]
          unfold pieceL
          simp only [List.append_assoc, List.nil_append]
        have HZ2 : Hid (((acc ++ B (s.extract k s.size)) ++ B (S [])).length ≤ 6 * s.size) := by
          show _ ≤ _
          rw [List.length_append, List.length_append, B_S]
          have := HZ.out
          have e1 : (B (s.extract k s.size)).length = s.size - k := by rw [← HPL.out, S_piece, size_S]; rfl
          rw [e1]
          simp only [List.length_nil]
          omega
        have hmx : max (s.size : Int) (s.size : Int) = (s.size : Int) := by omega
        clear hto hround hrr
        go_wp2_with fail
        refine HF.out.mono ?_
        rintro e w1 ⟨rfl, rfl⟩
        go_wp2_with fail
        refine (write_any _ _ acc (s.extract k s.size) wr HD.out (by have := HZ.out; have := size_extract_le s k s.size; omega) HBr.out.size).mono ?_
        rintro e w1 ⟨rfl, hd1, hb1⟩
        have HD1 := Lib.hid hd1
        have HB1 := Lib.hid (HBr.out.trans hb1)
        clear hd1 hb1
        go_wp2_with fail
        refine (HRD.out _).mono ?_
        rintro e w2 ⟨rfl, hb2⟩
        have HD2 := Lib.hid (HD1.out.keep hb2)
        have HB2 := Lib.hid (below_then HB1.out HB1.out.size hb2)
        clear hb2
        unfold valR
        go_wp2_with fail
        refine (write_any _ _ (acc ++ B (s.extract k s.size)) (S []) w2 HD2.out (by
          have h3 := HZ.out; have h4 := size_extract_le s k s.size
          rw [List.length_append, ← size_B, size_S, List.length_nil]; omega) HB2.out.size).mono ?_
        rintro e w3 ⟨rfl, hd3, hb3⟩
        have HD3 := Lib.hid hd3
        have HB3 := Lib.hid (HB2.out.trans hb3)
        clear hd3 hb3
        go_wp2_with fail
        refine ⟨⟨s.size, _, Nat.le_refl _, rfl, HA2, HZ2, HD3.out, HB3.out⟩, by simp [intOf]; omega⟩
    · obtain rfl : k = s.size := by omega
      have hfin : acc = allR attr (B s) := by
        rw [← HA.out, List.drop_eq_nil_of_le (by rw [HLL.out]; exact Nat.le_refl _), allR_nil, List.append_nil]
      have HFI := Lib.hid hfin
      clear hfin
      go_wp2_with fail
      refine (bstring_any _ _ acc wr HD.out HBr.out.size).mono ?_
      rintro e w1 ⟨rfl, hb1⟩
      have HB1 := Lib.hid (HBr.out.trans hb1)
      clear hb1
      go_wp2_with fail
      go_ret
      exact ⟨ret_str (by rw [HFI.out]), HB1.out⟩
end Go.Proofs.Ytdjeajbinpgpiaa
