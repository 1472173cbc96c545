/- Joined texts: Builder, All. -/
import Derived.Test.YtdjeajbinpgpiaaGreatJLexerTells5
import Derived.Test.YtdjeajbinpgpiaaGreatJLexerTells1
import Derived.Lib.Builder
import Derived.Lib.AppendStr
import Derived.Laws.Externs
import Derived.Test.YtdjeajbinpgpiaaGreatJLexerTells10
namespace Go.Proofs.YtdjeajbinpgpiaaGreat
open Go.RowKit

theorem size_builder : (Tryz.prog.info? 75).map (·.size) = some 2 := by kernel_rfl
theorem lies_builder : liesAt Tryz.prog Tryz.prog.depth 75 (2 / Tryz.prog.cellsOf 75) 0 75 1 = true := by kernel_rfl
theorem info_byte : (Tryz.prog.info? 5).map (fun i => (i.zero, i.size, i.bytes)) = some (some (.int .u8 0), 1, 1) := by kernel_rfl

/-- A builder that holds these bytes. -/
def Bld (w : World) (B b : Nat) (l : List UInt8) : Prop := Lib.IsBuilder 75 5 B b (Lib.byteCells l) w
theorem Bld.new (w : World) : Bld (w.alloc (.cells #[.pointer none, .slice none 0 0] 75)) w.heap.size w.heap.size [] := Lib.fresh_isBuilder _ _ w
theorem at_keep {p : Value} {w w1 : World} {B b : Nat} {bs : List Value} (h : Lib.BuilderAt 75 5 B b p bs w) (hb : Below w.heap.size w w1) : Lib.BuilderAt 75 5 B b p bs w1 := by
  obtain ⟨h1, v, h2, h3, h4⟩ := h
  exact ⟨h1, v, (hb.block b (Array.getElem?_eq_some_iff.1 h2).1).trans h2, owns_but h3 (But.of_below hb) (S := fun _ => False) (fun _ _ h => h), h4⟩
theorem Bld.keep {w w1 : World} {B b : Nat} {l : List UInt8} (h : Bld w B b l) (hb : Below w.heap.size w w1) : Bld w1 B b l := h.imp (fun h => at_keep h hb) (fun h => at_keep h hb)
theorem cells_app (l : List UInt8) (s : ByteArray) : Lib.byteCells l ++ Lib.strCells s = Lib.byteCells (l ++ B s) := by
  simp [Lib.byteCells, Lib.strCells, B]

set_option maxHeartbeats 1000000 in
set_option maxRecDepth 100000 in
theorem check_used (b : Nat) (w : World) (h0 : w.cell? ⟨b, 0, none⟩ = some (.pointer (some ⟨b, 0, none⟩))) :
    Calls Tryz.prog 89 #[.pointer (some ⟨b, 0, none⟩)] w fun e w' => e = .returned (.tuple #[]) ∧ w = w' := by
  obtain ⟨j, hj, _⟩ := Option.map_eq_some_iff.1 size_builder
  go_enter Tryz.func89, Tryz.ntmps89
  go_wp2
  rw [Lib.run_neq_ptr_same w _ Tryz.underlying73 hj]
  go_wp2
  go_end0
  exact ⟨rfl, rfl⟩

set_option maxHeartbeats 1000000 in
set_option maxRecDepth 100000 in
theorem check_fresh (b : Nat) (w : World) (h0 : w.cell? ⟨b, 0, none⟩ = some (.pointer none)) (hsh : w.shape? b = some (75, 2)) (hfz : w.frozen? ⟨b, 0, none⟩ = false) :
    Calls Tryz.prog 89 #[.pointer (some ⟨b, 0, none⟩)] w fun e w' => e = .returned (.tuple #[]) ∧ w.setCell ⟨b, 0, none⟩ (.pointer (some ⟨b, 0, none⟩)) = w' := by
  obtain ⟨j, hj, hjs⟩ := Option.map_eq_some_iff.1 size_builder
  go_enter Tryz.func89, Tryz.ntmps89
  go_wp2
  rw [Lib.run_to_unsafe w ⟨b, 0, none⟩ Tryz.underlying73 Tryz.underlying105 hj (by rw [hjs]; decide) hsh (Nat.zero_lt_succ 1)]
  simp only [Result.andThen]
  rw [Oper.upon_value]
  go_wp2
  rw [run_callFunc_extern Tryz.func108 (by kernel_rfl) (by kernel_rfl) (by kernel_rfl) (e := Extern.AbiNoEscape.same) (by kernel_rfl)]
  rw [Lib.run_noEscape]
  simp only [Result.andThen]
  rw [Oper.upon_value]
  go_wp2
  rw [Lib.run_from_unsafe w ⟨b, 0, none⟩ Tryz.underlying105 Tryz.underlying73 hj hsh lies_builder]
  simp only [Result.andThen]
  rw [Oper.upon_value]
  go_wp2
  go_end0
  exact ⟨rfl, rfl⟩
theorem check_any (B b : Nat) (bs : List Value) (w : World) (h : Lib.IsBuilder 75 5 B b bs w) :
    Calls Tryz.prog 89 #[.pointer (some ⟨b, 0, none⟩)] w fun e w' => e = .returned (.tuple #[]) ∧ Lib.BuilderAt 75 5 B b (.pointer (some ⟨b, 0, none⟩)) bs w' ∧ Below B w w' := by
  rcases h with h | h
  · refine (check_fresh b w h.cell0 h.shape h.frozen0).mono fun e w' ⟨he, hw⟩ => ⟨he, ?_⟩
    subst hw
    exact ⟨h.used _, (Below.refl _ _).setCell (p := ⟨b, 0, none⟩) h.1 _⟩
  · refine (check_used b w h.cell0).mono fun e w' ⟨he, hw⟩ => ⟨he, ?_⟩
    subst hw
    exact ⟨h, Below.refl _ _⟩

set_option maxHeartbeats 1000000 in
set_option maxRecDepth 100000 in
theorem write_cells (B b : Nat) (bs : List Value) (s : ByteArray) (w : World) (h : Lib.IsBuilder 75 5 B b bs w) (hlen : bs.length + s.size ≤ 140737488355328) (hBw : B ≤ w.heap.size) :
    Calls Tryz.prog 61 #[.pointer (some ⟨b, 0, none⟩), .string s] w fun e w' => e = .returned (.tuple #[.int .i64 s.size, .nilIface]) ∧ (Lib.BuilderAt 75 5 B b (.pointer (some ⟨b, 0, none⟩)) (bs ++ Lib.strCells s) w' ∧ Below B w w') := by
  obtain ⟨i0, hi, hz0, hz1, hz2⟩ := info_parts info_byte
  have HC := Lib.hid (check_any B b bs w h)
  go_enter Tryz.func61, Tryz.ntmps61
  go_wp2_with fail
  refine HC.out.mono ?_
  rintro e w1 ⟨rfl, h1, hb1⟩
  obtain ⟨hB, v, hbk, hown, hne⟩ := h1
  have c0 : w1.cell? ⟨b, 0, none⟩ = some (.pointer (some ⟨b, 0, none⟩)) := by rw [Lib.cell_of_heap hbk]; rfl
  have c1 : w1.cell? ⟨b, 1, none⟩ = some v := by rw [Lib.cell_of_heap hbk]; rfl
  go_wp2_with (at_builtin; refine Lib.wpList_append_own_string _ rfl _ _ 27 9 rfl B 5 i0 Tryz.underlying27 Tryz.underlying9 hi hz0 hz1 hz2 _ _ _ rfl hown s rfl ?c3 ?c4 ?c5 ?_)
  case c3 => unfold maxLen; omega
  case c4 => omega
  case c5 => have := hb1.size; omega
  intro v' w2 hown' hgrow _
  have hlt : b < w1.heap.size := (Array.getElem?_eq_some_iff.1 hbk).1
  have hb2 : w2.heap[b]? = some (.cells #[.pointer (some ⟨b, 0, none⟩), v] 75 (0, 0)) := by
    rw [hgrow.block b hlt (fun e => hne e.symm)]
    exact hbk
  have d0 : w2.cell? ⟨b, 0, none⟩ = some (.pointer (some ⟨b, 0, none⟩)) := by rw [Lib.cell_of_heap hb2]; rfl
  have d1 : w2.cell? ⟨b, 1, none⟩ = some v := by rw [Lib.cell_of_heap hb2]; rfl
  have f1 : w2.frozen? ⟨b, 1, none⟩ = false := Lib.frozen_of_heap hb2 1
  obtain ⟨ao, n', cap, rfl⟩ : ∃ ao n' cap, v' = .slice ao n' cap := by
    rcases hown'.2 with ⟨hv, _⟩ | ⟨g, cap, cur, hv, _⟩
    · exact ⟨_, _, _, hv⟩
    · exact ⟨_, _, _, hv⟩
  go_wp2
  go_ret2
  refine ⟨rfl, ?_, ?_⟩
  · exact Lib.BuilderAt.put (T := 75) (e := 5) hB hb2 (bs' := bs ++ Lib.strCells s) (by simpa [Lib.strCells_length] using hown') (by decide)
  · exact (hb1.grown hgrow (by have := hb1.size; omega) (fun k hk => (hown.lt k hk).1)).setCell (p := ⟨b, 1, none⟩) hB _

theorem write_any (Bs b : Nat) (l : List UInt8) (s : ByteArray) (w : World) (h : Bld w Bs b l) (hlen : l.length + s.size ≤ 140737488355328) (hBw : Bs ≤ w.heap.size) :
    Calls Tryz.prog 61 #[.pointer (some ⟨b, 0, none⟩), .string s] w fun e w' => e = .returned (.tuple #[.int .i64 s.size, .nilIface]) ∧ Bld w' Bs b (l ++ B s) ∧ Below Bs w w' :=
  (write_cells Bs b (Lib.byteCells l) s w h (by rw [Lib.byteCells_length]; exact hlen) hBw).mono fun _ _ ⟨he, h1, h2⟩ => ⟨he, .inr (by rw [← cells_app]; exact h1), h2⟩
theorem bstring_any (Bs b : Nat) (l : List UInt8) (w : World) (h : Bld w Bs b l) (hBw : Bs ≤ w.heap.size) :
    Calls Tryz.prog 63 #[.pointer (some ⟨b, 0, none⟩)] w fun e w' => e = .returned (.string (S l)) ∧ Below Bs w w' := Tryz.Builder_String_any Bs b l w h hBw
end Go.Proofs.YtdjeajbinpgpiaaGreat

namespace Go.Proofs.YtdjeajbinpgpiaaGreat
open Go.RowKit

theorem findK (s : ByteArray) (k : Nat) (sub : ByteArray) (w : World) (hs : s.size ≤ 65536) (hw : Lax w) (hk : k ≤ s.size) :
    Calls Tryz.prog 38 #[.string s, .int .i64 (k : Int), .string sub] w fun e w' => e = .returned (.int .i64 (findL (B s) (B sub) k : Nat)) ∧ w = w' := by
  have := find_any s (k : Int) sub w (by omega) hw
  rw [clampN_nat k s.size hk] at this
  exact this
theorem amp_at {s : ByteArray} {k to : Nat} (hk : k ≤ s.size) (h : findL (B s) [38] k = to) (hlt : to < s.size) : ((B s).drop to).head? = some 38 := by
  have hk' : k ≤ (B s).length := by rw [← size_B]; exact hk
  rw [find_byte _ _ _ hk'] at h
  have hlt' : stopL (fun x => x != 38) (B s) k < (B s).length := by rw [h, ← size_B]; exact hlt
  have := stopL_at (fun x => x != 38) (B s) k hk' hlt'
  rw [List.head?_drop, ← h, List.getElem?_eq_getElem hlt']
  simpa [bne] using this
theorem all_next (attr : Bool) {l : List UInt8} {to : Nat} (h : (l.drop to).head? = some 38) : allR attr (l.drop to) = (refS attr (l.drop to)).1 ++ allR attr (l.drop (to + (refS attr (l.drop to)).2)) := by
  cases hd : l.drop to with
  | nil => rw [hd] at h; cases h
  | cons c r =>
    rw [hd] at h
    obtain rfl : c = 38 := Option.some.inj h
    rw [allR_amp, ← hd, List.drop_drop]
theorem size_le_S {l : List UInt8} {n : Nat} (h : l.length ≤ n) : (S l).size ≤ n := by rw [size_S]; exact h

set_option maxHeartbeats 4000000 in
set_option maxRecDepth 100000 in
theorem all_any (s : ByteArray) (attr : Bool) (w : World) (hs : s.size ≤ 65536) (hw : Lax w) :
    Calls Tryz.prog 39 #[.string s, .bool attr] w fun e w' => e = .returned (.string (S (allR attr (B s)))) ∧ Below w.heap.size w w' := by
  have HN := Lib.hid (Bld.new w)
  have HB := Lib.hid ((Below.refl w.heap.size w).alloc (Nat.le_refl _) (.cells #[.pointer none, .slice none 0 0] 75))
  have HW := Lib.hid hw
  have hL : (B s).length = s.size := (size_B s).symm
  have HLL := Lib.hid hL
  clear hw hL
  go_enter Tryz.func39, Tryz.ntmps39
  go_wp2_with fail
  go_loopw [6] (fun i wr => ∃ (k : Nat) (acc : List UInt8), k ≤ s.size ∧ i = .int .i64 k ∧ Hid (acc ++ allR attr ((B s).drop k) = allR attr (B s)) ∧ Hid (acc.length ≤ 6 * k) ∧ Bld wr w.heap.size w.heap.size acc ∧ Below w.heap.size w wr) (fun i _ => s.size - (intOf i).toNat)
  case atStart => exact ⟨0, [], Nat.zero_le _, rfl, rfl, Nat.zero_le _, HN.out, HB.out⟩
  case round =>
    obtain ⟨k, acc, hk, rfl, HA, HZ, hD, hB⟩ := hrel
    have HD := Lib.hid hD
    have HBr := Lib.hid hB
    clear hD hB
    by_cases hlt : k < s.size
    · have HF := Lib.hid (findK s k ⟨#[38]⟩ wr hs (HW.out.below HBr.out) hk)
      rw [show B ⟨#[38]⟩ = [38] from rfl] at HF
      have h1 := findL_ge (B s) [38] k (by rw [HLL.out]; exact hk)
      have h2 := findL_le (B s) [38] k (by rw [HLL.out]; exact hk)
      rw [HLL.out] at h2
      have hround := allR_round attr (B s) k (by rw [HLL.out]; exact hk)
      have hto := fun h => amp_at hk (rfl : findL (B s) [38] k = _) h
      generalize findL (B s) [38] k = to at *
      have hpl : (S (pieceL (B s) k to)).size = to - k := by rw [size_S, pieceL_len _ _ _ h1 (by rw [HLL.out]; exact h2)]
      have HPL := Lib.hid hpl
      have HRD := Lib.hid (fun w => read_any s w attr hs (to : Int))
      clear hpl
      by_cases hts : to < s.size
      · have hamp := hto hts
        have hrr := readR_at attr (B s) to hamp
        have hnx := all_next attr hamp
        have hfc := refS_facts attr ((B s).drop to) (by rw [List.length_drop, HLL.out]; omega)
        rw [List.length_drop, HLL.out] at hfc
        rw [hrr] at HRD
        generalize refS attr ((B s).drop to) = r at *
        obtain ⟨rt, rn⟩ := r
        simp only at hfc hnx HRD
        have hsz : (S rt).size ≤ 6 * rn := size_le_S hfc.2.2.2
        have HSZ := Lib.hid hsz
        have hr1 : 1 ≤ rn := hfc.1
        have hr2 : to + rn ≤ s.size := by have := hfc.2.1; omega
        have HA2 : Hid ((acc ++ B (s.extract k to)) ++ B (S rt) ++ allR attr ((B s).drop (to + rn)) = allR attr (B s)) := by
          show _ = _
          rw [← HA.out, hround, hnx, B_piece, B_S]
          unfold pieceL
          simp only [List.append_assoc]
        have HZ2 : Hid (((acc ++ B (s.extract k to)) ++ B (S rt)).length ≤ 6 * (to + rn)) := by
          show _ ≤ _
          rw [List.length_append, List.length_append, B_S]
          have := HZ.out
          have e1 : (B (s.extract k to)).length = to - k := by rw [← HPL.out, S_piece, size_S]; rfl
          rw [e1]
          have := hfc.2.2.2
          omega
        have hmx : max ((to + rn : Nat) : Int) (to : Int) = ((to + rn : Nat) : Int) := by omega
        clear hto hamp hrr hnx hfc hround hsz
        go_wp2_with fail
        refine HF.out.mono ?_
        rintro e w1 ⟨rfl, rfl⟩
        go_wp2_with fail
        refine (write_any _ _ acc (s.extract k to) wr HD.out (by have := HZ.out; have := size_extract_le s k to; omega) HBr.out.size).mono ?_
        rintro e w1 ⟨rfl, hd1, hb1⟩
        have HD1 := Lib.hid hd1
        have HB1 := Lib.hid (HBr.out.trans hb1)
        clear hd1 hb1
        go_wp2_with fail
        refine (HRD.out _).mono ?_
        rintro e w2 ⟨rfl, hb2⟩
        have HD2 := Lib.hid (HD1.out.keep hb2)
        have HB2 := Lib.hid (below_then HB1.out HB1.out.size hb2)
        clear hb2
        unfold valR
        go_wp2_with fail
        refine (write_any _ _ (acc ++ B (s.extract k to)) (S rt) w2 HD2.out (by
          have h3 := HZ.out; have h4 := size_extract_le s k to; have h5 := HSZ.out
          rw [List.length_append, ← size_B]; omega) HB2.out.size).mono ?_
        rintro e w3 ⟨rfl, hd3, hb3⟩
        have HD3 := Lib.hid hd3
        have HB3 := Lib.hid (HB2.out.trans hb3)
        clear hd3 hb3
        go_wp2_with fail
        refine ⟨⟨to + rn, _, hr2, by congr 1, HA2, HZ2, HD3.out, HB3.out⟩, by simp [intOf]; omega⟩
      · obtain rfl : to = s.size := by omega
        have hrr := readR_no attr (B s) (s.size : Int) (.inr (.inl (by rw [HLL.out]; omega)))
        rw [hrr] at HRD
        have HA2 : Hid ((acc ++ B (s.extract k s.size)) ++ B (S []) ++ allR attr ((B s).drop s.size) = allR attr (B s)) := by
          show _ = _
          rw [← HA.out, hround, B_piece, B_S]
          unfold pieceL
          simp only [List.append_assoc, List.nil_append]
        have HZ2 : Hid (((acc ++ B (s.extract k s.size)) ++ B (S [])).length ≤ 6 * s.size) := by
          show _ ≤ _
          rw [List.length_append, List.length_append, B_S]
          have := HZ.out
          have e1 : (B (s.extract k s.size)).length = s.size - k := by rw [← HPL.out, S_piece, size_S]; rfl
          rw [e1]
          simp only [List.length_nil]
          omega
        have hmx : max (s.size : Int) (s.size : Int) = (s.size : Int) := by omega
        clear hto hround hrr
        go_wp2_with fail
        refine HF.out.mono ?_
        rintro e w1 ⟨rfl, rfl⟩
        go_wp2_with fail
        refine (write_any _ _ acc (s.extract k s.size) wr HD.out (by have := HZ.out; have := size_extract_le s k s.size; omega) HBr.out.size).mono ?_
        rintro e w1 ⟨rfl, hd1, hb1⟩
        have HD1 := Lib.hid hd1
        have HB1 := Lib.hid (HBr.out.trans hb1)
        clear hd1 hb1
        go_wp2_with fail
        refine (HRD.out _).mono ?_
        rintro e w2 ⟨rfl, hb2⟩
        have HD2 := Lib.hid (HD1.out.keep hb2)
        have HB2 := Lib.hid (below_then HB1.out HB1.out.size hb2)
        clear hb2
        unfold valR
        go_wp2_with fail
        refine (write_any _ _ (acc ++ B (s.extract k s.size)) (S []) w2 HD2.out (by
          have h3 := HZ.out; have h4 := size_extract_le s k s.size
          rw [List.length_append, ← size_B, size_S, List.length_nil]; omega) HB2.out.size).mono ?_
        rintro e w3 ⟨rfl, hd3, hb3⟩
        have HD3 := Lib.hid hd3
        have HB3 := Lib.hid (HB2.out.trans hb3)
        clear hd3 hb3
        go_wp2_with fail
        refine ⟨⟨s.size, _, Nat.le_refl _, rfl, HA2, HZ2, HD3.out, HB3.out⟩, by simp [intOf]; omega⟩
    · obtain rfl : k = s.size := by omega
      have hfin : acc = allR attr (B s) := by
        rw [← HA.out, List.drop_eq_nil_of_le (by rw [HLL.out]; exact Nat.le_refl _), allR_nil, List.append_nil]
      have HFI := Lib.hid hfin
      clear hfin
      go_wp2_with fail
      refine (bstring_any _ _ acc wr HD.out HBr.out.size).mono ?_
      rintro e w1 ⟨rfl, hb1⟩
      have HB1 := Lib.hid (HBr.out.trans hb1)
      clear hb1
      go_wp2_with fail
      go_ret
      exact ⟨ret_str (by rw [HFI.out]), HB1.out⟩
end Go.Proofs.YtdjeajbinpgpiaaGreat
