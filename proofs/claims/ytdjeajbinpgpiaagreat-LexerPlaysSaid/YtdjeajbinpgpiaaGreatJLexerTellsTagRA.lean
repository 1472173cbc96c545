/- arbourref11.Attr. -/
import Derived.Test.YtdjeajbinpgpiaaGreatJLexerTells14
import Derived.Test.YtdjeajbinpgpiaaGreatJLexerTellsAllR
import Derived.Test.YtdjeajbinpgpiaaGreatJLexerTells19
namespace Go.Proofs.YtdjeajbinpgpiaaGreat
open Go.RowKit

theorem rskipK (s : ByteArray) (k : Nat) (w : World) (hs : s.size ≤ 65536) (hk : k ≤ s.size) :
    Calls Tryz.prog 53 #[.string s, .int .i64 (k : Int)] w fun e w' => e = .returned (.int .i64 (skipL (B s) k : Nat)) ∧ w = w' := by
  have := rskip_any s (k : Int) w (by omega)
  rw [clampN_nat k s.size hk] at this
  exact this
theorem runtilK (s : ByteArray) (k : Nat) (set : ByteArray) (w : World) (hs : s.size ≤ 65536) (hk : k ≤ s.size) (ht : set.size ≤ 65536) :
    Calls Tryz.prog 54 #[.string s, .int .i64 (k : Int), .string set] w fun e w' => e = .returned (.int .i64 (untilL (B s) (B set) k : Nat)) ∧ w = w' := by
  have := runtil_any s (k : Int) set w (by omega) (by omega)
  rw [clampN_nat k s.size hk] at this
  exact this
theorem rfindK (s : ByteArray) (k : Nat) (sub : ByteArray) (w : World) (hs : s.size ≤ 65536) (hk : k ≤ s.size) (ht : sub.size ≤ 65536) :
    Calls Tryz.prog 56 #[.string s, .int .i64 (k : Int), .string sub] w fun e w' => e = .returned (.int .i64 (findL (B s) (B sub) k : Nat)) ∧ w = w' := by
  have := rfind_any s (k : Int) sub w (by omega) (by omega)
  rw [clampN_nat k s.size hk] at this
  exact this
theorem rlowK (s : ByteArray) (i j : Nat) (w : World) (hs : s.size ≤ 65536) :
    Calls Tryz.prog 55 #[.string (s.extract i j)] w fun e w' => e = .returned (.string (S (lowL (pieceL (B s) i j)))) ∧ Below w.heap.size w w' := by
  have := rlower_any (s.extract i j) w (by have := size_extract_le s i j; omega)
  rw [B_piece] at this
  exact this
theorem rallP (s : ByteArray) (i j : Nat) (w : World) (hs : s.size ≤ 65536) :
    Calls Tryz.prog 45 #[.string (s.extract i j), .bool true] w fun e w' => e = .returned (.string (S (allR true (pieceL (B s) i j)))) ∧ Below w.heap.size w w' := by
  have := rall_any (s.extract i j) true w (by have := size_extract_le s i j; omega)
  rw [B_piece] at this
  exact this

section
variable (s : ByteArray) (k : Nat) (w : World) (hs : s.size ≤ 65536) (hk : k < s.size)
include hs hk
set_option maxHeartbeats 16000000 in
set_option maxRecDepth 100000 in
theorem rattr_any :
    Calls Tryz.prog 79 #[.string s, .int .i64 (k : Int)] w fun e w' => e = .returned (arV (attrT (B s) k)) ∧ Below w.heap.size w w' := by
  have hL : (B s).length = s.size := (size_B s).symm
  have hbd := nameEnd_bd (B s) k (by rw [hL]; exact hk)
  have hU := fun w => runtilK s (k + 1) ⟨#[9, 10, 12, 13, 32, 47, 62, 61]⟩ w hs (by omega) (by decide)
  rw [show B ⟨#[9, 10, 12, 13, 32, 47, 62, 61]⟩ = endsT from rfl, show ((k + 1 : Nat) : Int) = (k : Int) + 1 by omega, show untilL (B s) endsT (k + 1) = nameEnd (B s) k by unfold nameEnd; rw [Nat.min_eq_left (by rw [hL]; omega)]] at hU
  have HU := Lib.hid hU
  have hat : attrT (B s) k = if nameEnd (B s) k = s.size then (noAt, s.size, 0) else attrV (B s) k (nameEnd (B s) k) := by unfold attrT; rw [hL]
  have HQ := Lib.hid hat
  have HLE := Lib.hid hL
  have hb0 : Below w.heap.size w (w.alloc (.cells #[.string ⟨#[]⟩, .string ⟨#[]⟩] 71)) := (Below.refl _ _).alloc (Nat.le_refl _) _
  have hz0 := Blk.new w 71 #[.string ⟨#[]⟩, .string ⟨#[]⟩] (0, 0)
  have HB0 := Lib.hid hb0
  have HZ0 := Lib.hid hz0
  rw [hL] at hbd
  obtain ⟨h1, h2⟩ := hbd
  clear hU hat hL hb0
  generalize nameEnd (B s) k = t at *
  by_cases ht : t = s.size
  · have HV : Hid (attrT (B s) k = (noAt, s.size, 0)) := HQ.out.trans (if_pos ht)
    have d0 : ((t : Int) == (s.size : Int)) = true := by rw [ht]; exact beq_self_eq_true _
    have HTS : Hid ((t : Int) = (s.size : Int)) := by show _ = _; rw [ht]
    obtain ⟨z0, z1, f0, f1⟩ := cells2 hz0
    clear ht HQ hz0
    go_enter Tryz.func79, Tryz.ntmps79
    go_wp2_with fail
    refine (HU.out _).mono ?_
    rintro e w' ⟨rfl, rfl⟩
    go_wp2_with fail
    refine bodyPost_ret (v := .tuple #[.agg #[.string ⟨#[]⟩, .string ⟨#[]⟩], .int .i64 (t : Int), .int .i64 0]) (by simp [results, Tryz.results79, go_sem]) rfl
      ⟨ret_ar (by rw [HV.out]; rfl) (by rw [HV.out]; exact HTS.out) (by rw [HV.out]; rfl), HB0.out⟩
  · have hv1 : attrT (B s) k = attrV (B s) k t := HQ.out.trans (if_neg ht)
    have d0 : ((t : Int) == (s.size : Int)) = false := by rw [beq_eq_false_iff_ne]; omega
    have HLO := Lib.hid (fun w => rlowK s k t w hs)
    have HSK := Lib.hid (fun w => rskipK s t w hs h2)
    have h3 := skip_bd (B s) t (by rw [HLE.out]; exact h2)
    rw [HLE.out] at h3
    have hav : attrV (B s) k t = if startsL (B s) [61] (skipL (B s) t) = true then
      (if (valueT (B s) (skipL (B s) (skipL (B s) t + 1))).2.2 = 0 then (noAt, s.size, 0)
       else (⟨S (lowL (pieceL (B s) k t)), S (valueT (B s) (skipL (B s) (skipL (B s) t + 1))).1⟩, (valueT (B s) (skipL (B s) (skipL (B s) t + 1))).2.1, (valueT (B s) (skipL (B s) (skipL (B s) t + 1))).2.2))
      else (⟨S (lowL (pieceL (B s) k t)), ⟨#[]⟩⟩, skipL (B s) t, 1) := by unfold attrV; rw [HLE.out]
    have HV0 := Lib.hid (hv1.trans hav)
    generalize S (lowL (pieceL (B s) k t)) = nm at *
    generalize skipL (B s) t = t2 at *
    obtain ⟨h4, h5⟩ := h3
    have HST := Lib.hid (fun w => rstartsK s t2 ⟨#[61]⟩ w hs h5 (by decide))
    rw [show B ⟨#[61]⟩ = [61] from rfl] at HST
    clear ht HQ hz0 hv1 hav
    cases hst : startsL (B s) [61] t2 with
    | false =>
      rw [hst] at HST HV0
      have HV : Hid (attrT (B s) k = (⟨nm, ⟨#[]⟩⟩, t2, 1)) := HV0.out
      clear hst HV0
      go_enter Tryz.func79, Tryz.ntmps79
      go_wp2_with fail
      refine (HU.out _).mono ?_
      rintro e w' ⟨rfl, rfl⟩
      go_wp2_with fail
      refine (HLO.out _).mono ?_
      rintro e w2 ⟨rfl, b2⟩
      have hz2 := HZ0.out.keep b2
      have HZ2 := Lib.hid hz2
      have HB2 := Lib.hid (below_then HB0.out HB0.out.size b2)
      have hb3 : Below w2.heap.size w2 (w2.alloc (.cells #[.string nm, .string ⟨#[]⟩] 71)) := (Below.refl _ _).alloc (Nat.le_refl _) _
      have HB3 := Lib.hid (below_then HB2.out HB2.out.size hb3)
      have HZ3 := Lib.hid (hz2.keep hb3)
      have HY3 := Lib.hid (Blk.new w2 71 #[.string nm, .string ⟨#[]⟩] (0, 0))
      obtain ⟨zz0, zz1, ff0, ff1⟩ := cells2 hz2
      have hlt := hz2.lt
      have HB2S := Lib.hid HB2.out.size
      clear b2 hb3 hz2
      go_wp2_with fail
      refine (HSK.out _).mono ?_
      rintro e w' ⟨rfl, rfl⟩
      go_wp2_with fail
      refine (HST.out _).mono ?_
      rintro e w' ⟨rfl, rfl⟩
      go_wp2_with fail
      have hzf : Blk (((w2.setCell ⟨w.heap.size, 0, none⟩ (.string nm)).setCell ⟨w.heap.size, 1, none⟩ (.string ⟨#[]⟩)).alloc (.cells #[.string nm, .string ⟨#[]⟩] 71)) w.heap.size 71 #[.string nm, .string ⟨#[]⟩] (0, 0) := ((HZ2.out.set 0 (.string nm)).set 1 (.string ⟨#[]⟩)).alloc _
      obtain ⟨r0, r1, _, _⟩ := cells2 hzf
      refine bodyPost_ret (v := .tuple #[.agg #[.string nm, .string ⟨#[]⟩], .int .i64 (t2 : Int), .int .i64 1]) (by simp [results, Tryz.results79, go_sem, r0, r1]) rfl
        ⟨ret_ar (by rw [HV.out]) (by rw [HV.out]) (by rw [HV.out]; rfl), ?_⟩
      have h6 := (HB2.out.setCell (p := ⟨w.heap.size, 0, none⟩) (Nat.le_refl _) (.string nm)).setCell (p := ⟨w.heap.size, 1, none⟩) (Nat.le_refl _) (.string ⟨#[]⟩)
      exact h6.alloc h6.size _
    | true =>
      rw [hst] at HST HV0
      have hs61 := (starts_lt hst).1
      rw [HLE.out] at hs61
      have HSK2 := Lib.hid (fun w => rskipK s (t2 + 1) w hs (by omega))
      rw [show ((t2 + 1 : Nat) : Int) = (t2 : Int) + 1 by omega] at HSK2
      have h6 := skip_bd (B s) (t2 + 1) (by rw [HLE.out]; omega)
      rw [HLE.out] at h6
      rw [if_pos rfl] at HV0
      generalize skipL (B s) (t2 + 1) = t3 at *
      obtain ⟨h7, h8⟩ := h6
      clear hst
      by_cases h3s : t3 = s.size
      · have hvt : valueT (B s) t3 = ([], s.size, 0) := by
          unfold valueT
          rw [show (B s)[t3]? = none by rw [List.getElem?_eq_none]; rw [HLE.out]; omega]
          simp only
          rw [HLE.out]
        have HV : Hid (attrT (B s) k = (noAt, s.size, 0)) := HV0.out.trans (by rw [hvt]; rfl)
        have d1 : ((t3 : Int) == (s.size : Int)) = true := by rw [h3s]; exact beq_self_eq_true _
        have HTS : Hid ((t3 : Int) = (s.size : Int)) := by show _ = _; rw [h3s]
        clear h3s hvt HV0
        go_enter Tryz.func79, Tryz.ntmps79
        go_wp2_with fail
        refine (HU.out _).mono ?_
        rintro e w' ⟨rfl, rfl⟩
        go_wp2_with fail
        refine (HLO.out _).mono ?_
        rintro e w2 ⟨rfl, b2⟩
        have hz2 := HZ0.out.keep b2
        have HZ2 := Lib.hid hz2
        have HB2 := Lib.hid (below_then HB0.out HB0.out.size b2)
        have hb3 : Below w2.heap.size w2 (w2.alloc (.cells #[.string nm, .string ⟨#[]⟩] 71)) := (Below.refl _ _).alloc (Nat.le_refl _) _
        have HB3 := Lib.hid (below_then HB2.out HB2.out.size hb3)
        have HZ3 := Lib.hid (hz2.keep hb3)
        have HY3 := Lib.hid (Blk.new w2 71 #[.string nm, .string ⟨#[]⟩] (0, 0))
        obtain ⟨zz0, zz1, ff0, ff1⟩ := cells2 hz2
        have hlt := hz2.lt
        have HB2S := Lib.hid HB2.out.size
        clear b2 hb3 hz2
        go_wp2_with fail
        refine (HSK.out _).mono ?_
        rintro e w' ⟨rfl, rfl⟩
        go_wp2_with fail
        refine (HST.out _).mono ?_
        rintro e w' ⟨rfl, rfl⟩
        go_wp2_with fail
        refine (HSK2.out _).mono ?_
        rintro e w' ⟨rfl, rfl⟩
        go_wp2_with fail
        have hzf : Blk (((w2.setCell ⟨w.heap.size, 0, none⟩ (.string ⟨#[]⟩)).setCell ⟨w.heap.size, 1, none⟩ (.string ⟨#[]⟩)).alloc (.cells #[.string nm, .string ⟨#[]⟩] 71)) w.heap.size 71 #[.string ⟨#[]⟩, .string ⟨#[]⟩] (0, 0) := ((HZ2.out.set 0 (.string ⟨#[]⟩)).set 1 (.string ⟨#[]⟩)).alloc _
        obtain ⟨r0, r1, _, _⟩ := cells2 hzf
        refine bodyPost_ret (v := .tuple #[.agg #[.string ⟨#[]⟩, .string ⟨#[]⟩], .int .i64 (t3 : Int), .int .i64 0]) (by simp [results, Tryz.results79, go_sem, r0, r1]) rfl
          ⟨ret_ar (by rw [HV.out]; rfl) (by rw [HV.out]; exact HTS.out) (by rw [HV.out]; rfl), ?_⟩
        have h6 := (HB2.out.setCell (p := ⟨w.heap.size, 0, none⟩) (Nat.le_refl _) (.string ⟨#[]⟩)).setCell (p := ⟨w.heap.size, 1, none⟩) (Nat.le_refl _) (.string ⟨#[]⟩)
        exact h6.alloc h6.size _
      · have d1 : ((t3 : Int) == (s.size : Int)) = false := by rw [beq_eq_false_iff_ne]; omega
        have hlt3 : t3 < s.size := by omega
        have hat3 := B_at s t3 hlt3
        clear h3s
        by_cases h62 : s[t3] = 62
        · have hvt : valueT (B s) t3 = ([], t3 + 1, 2) := by
            unfold valueT
            rw [hat3]
            simp only
            rw [if_neg (by rw [h62]; decide), if_pos h62]
          have HV : Hid (attrT (B s) k = (⟨nm, ⟨#[]⟩⟩, t3 + 1, 2)) := HV0.out.trans (by rw [hvt]; rfl)
          have e1 : ((s[t3].toNat : Int) == 62) = true := by rw [h62]; rfl
          clear hvt HV0 hat3 h62
          go_enter Tryz.func79, Tryz.ntmps79
          go_wp2_with fail
          refine (HU.out _).mono ?_
          rintro e w' ⟨rfl, rfl⟩
          go_wp2_with fail
          refine (HLO.out _).mono ?_
          rintro e w2 ⟨rfl, b2⟩
          have hz2 := HZ0.out.keep b2
          have HZ2 := Lib.hid hz2
          have HB2 := Lib.hid (below_then HB0.out HB0.out.size b2)
          have hb3 : Below w2.heap.size w2 (w2.alloc (.cells #[.string nm, .string ⟨#[]⟩] 71)) := (Below.refl _ _).alloc (Nat.le_refl _) _
          have HB3 := Lib.hid (below_then HB2.out HB2.out.size hb3)
          have HZ3 := Lib.hid (hz2.keep hb3)
          have HY3 := Lib.hid (Blk.new w2 71 #[.string nm, .string ⟨#[]⟩] (0, 0))
          obtain ⟨zz0, zz1, ff0, ff1⟩ := cells2 hz2
          have hlt := hz2.lt
          have HB2S := Lib.hid HB2.out.size
          clear b2 hb3 hz2
          go_wp2_with fail
          refine (HSK.out _).mono ?_
          rintro e w' ⟨rfl, rfl⟩
          go_wp2_with fail
          refine (HST.out _).mono ?_
          rintro e w' ⟨rfl, rfl⟩
          go_wp2_with fail
          refine (HSK2.out _).mono ?_
          rintro e w' ⟨rfl, rfl⟩
          go_wp2_with fail
          have hzf : Blk (((w2.setCell ⟨w.heap.size, 0, none⟩ (.string nm)).setCell ⟨w.heap.size, 1, none⟩ (.string ⟨#[]⟩)).alloc (.cells #[.string nm, .string ⟨#[]⟩] 71)) w.heap.size 71 #[.string nm, .string ⟨#[]⟩] (0, 0) := ((HZ2.out.set 0 (.string nm)).set 1 (.string ⟨#[]⟩)).alloc _
          obtain ⟨r0, r1, _, _⟩ := cells2 hzf
          refine bodyPost_ret (v := .tuple #[.agg #[.string nm, .string ⟨#[]⟩], .int .i64 ((t3 : Int) + 1), .int .i64 2]) (by simp [results, Tryz.results79, go_sem, r0, r1]) rfl
            ⟨ret_ar (by rw [HV.out]) (by rw [HV.out]; simp only; omega) (by rw [HV.out]; rfl), ?_⟩
          have h6 := (HB2.out.setCell (p := ⟨w.heap.size, 0, none⟩) (Nat.le_refl _) (.string nm)).setCell (p := ⟨w.heap.size, 1, none⟩) (Nat.le_refl _) (.string ⟨#[]⟩)
          exact h6.alloc h6.size _
        · have e1 : ((s[t3].toNat : Int) == 62) = false := byte_ne (n := 62) (by decide) h62
          by_cases hq : s[t3] = 34 ∨ s[t3] = 39
          · have hvq : valueT (B s) t3 = quotT (B s) s[t3] t3 := by
              unfold valueT
              rw [hat3]
              simp only
              rw [if_pos hq]
            have hq2 : quotT (B s) s[t3] t3 = if findL (B s) [s[t3]] (t3 + 1) = s.size then ([], s.size, 0) else (allR true (pieceL (B s) (t3 + 1) (findL (B s) [s[t3]] (t3 + 1))), findL (B s) [s[t3]] (t3 + 1) + 1, 1) := by unfold quotT; rw [HLE.out]
            have hF := fun w => rfindK s (t3 + 1) ⟨#[s[t3]]⟩ w hs (by omega) (by show 1 ≤ 65536; omega)
            have hone : s.extract t3 (t3 + 1) = ⟨#[s[t3]]⟩ := piece_one s t3 hlt3
            rw [show B ⟨#[s[t3]]⟩ = [s[t3]] from rfl, show ((t3 + 1 : Nat) : Int) = (t3 : Int) + 1 by omega, ← hone] at hF
            have hf := find_bd (B s) [s[t3]] (t3 + 1) (by rw [HLE.out]; omega)
            rw [HLE.out] at hf
            have e2 : ((s[t3].toNat : Int) == 34) = true ∨ (((s[t3].toNat : Int) == 34) = false ∧ ((s[t3].toNat : Int) == 39) = true) := by
              rcases hq with h | h
              · rw [h]; exact .inl rfl
              · rw [h]; exact .inr ⟨rfl, rfl⟩
            have HF := Lib.hid hF
            have HAL := Lib.hid (fun j w => rallP s (t3 + 1) j w hs)
            have HVQ := Lib.hid (hvq.trans hq2)
            obtain ⟨q1, q2⟩ := hf
            clear hvq hq2 hF hone hat3 h62 hq
            generalize findL (B s) [s[t3]] (t3 + 1) = f at *
            by_cases hfs : f = s.size
            · have HV : Hid (attrT (B s) k = (noAt, s.size, 0)) := HV0.out.trans (by rw [HVQ.out, if_pos hfs]; rfl)
              have d2 : ((f : Int) == (s.size : Int)) = true := by rw [hfs]; exact beq_self_eq_true _
              have HTS : Hid ((f : Int) = (s.size : Int)) := by show _ = _; rw [hfs]
              clear hfs HV0 HVQ
              rcases e2 with e2 | ⟨e2, e3⟩
              all_goals
                go_enter Tryz.func79, Tryz.ntmps79
                go_wp2_with fail
                refine (HU.out _).mono ?_
                rintro e w' ⟨rfl, rfl⟩
                go_wp2_with fail
                refine (HLO.out _).mono ?_
                rintro e w2 ⟨rfl, b2⟩
                have hz2 := HZ0.out.keep b2
                have HZ2 := Lib.hid hz2
                have HB2 := Lib.hid (below_then HB0.out HB0.out.size b2)
                have hb3 : Below w2.heap.size w2 (w2.alloc (.cells #[.string nm, .string ⟨#[]⟩] 71)) := (Below.refl _ _).alloc (Nat.le_refl _) _
                have HB3 := Lib.hid (below_then HB2.out HB2.out.size hb3)
                have HZ3 := Lib.hid (hz2.keep hb3)
                have HY3 := Lib.hid (Blk.new w2 71 #[.string nm, .string ⟨#[]⟩] (0, 0))
                obtain ⟨zz0, zz1, ff0, ff1⟩ := cells2 hz2
                have hlt := hz2.lt
                have HB2S := Lib.hid HB2.out.size
                clear b2 hb3 hz2
                go_wp2_with fail
                refine (HSK.out _).mono ?_
                rintro e w' ⟨rfl, rfl⟩
                go_wp2_with fail
                refine (HST.out _).mono ?_
                rintro e w' ⟨rfl, rfl⟩
                go_wp2_with fail
                refine (HSK2.out _).mono ?_
                rintro e w' ⟨rfl, rfl⟩
                go_wp2_with fail
                refine (HF.out _).mono ?_
                rintro e w' ⟨rfl, rfl⟩
                go_wp2_with fail
                have hzf : Blk (((w2.setCell ⟨w.heap.size, 0, none⟩ (.string ⟨#[]⟩)).setCell ⟨w.heap.size, 1, none⟩ (.string ⟨#[]⟩)).alloc (.cells #[.string nm, .string ⟨#[]⟩] 71)) w.heap.size 71 #[.string ⟨#[]⟩, .string ⟨#[]⟩] (0, 0) := ((HZ2.out.set 0 (.string ⟨#[]⟩)).set 1 (.string ⟨#[]⟩)).alloc _
                obtain ⟨r0, r1, _, _⟩ := cells2 hzf
                refine bodyPost_ret (v := .tuple #[.agg #[.string ⟨#[]⟩, .string ⟨#[]⟩], .int .i64 (f : Int), .int .i64 0]) (by simp [results, Tryz.results79, go_sem, r0, r1]) rfl
                  ⟨ret_ar (by rw [HV.out]; rfl) (by rw [HV.out]; exact HTS.out) (by rw [HV.out]; rfl), ?_⟩
                have h6 := (HB2.out.setCell (p := ⟨w.heap.size, 0, none⟩) (Nat.le_refl _) (.string ⟨#[]⟩)).setCell (p := ⟨w.heap.size, 1, none⟩) (Nat.le_refl _) (.string ⟨#[]⟩)
                exact h6.alloc h6.size _
            · have HV : Hid (attrT (B s) k = (⟨nm, S (allR true (pieceL (B s) (t3 + 1) f))⟩, f + 1, 1)) := HV0.out.trans (by rw [HVQ.out, if_neg hfs]; rfl)
              have d2 : ((f : Int) == (s.size : Int)) = false := by rw [beq_eq_false_iff_ne]; omega
              have hfl : f < s.size := by omega
              clear hfs HV0 HVQ
              rcases e2 with e2 | ⟨e2, e3⟩
              all_goals
                go_enter Tryz.func79, Tryz.ntmps79
                go_wp2_with fail
                refine (HU.out _).mono ?_
                rintro e w' ⟨rfl, rfl⟩
                go_wp2_with fail
                refine (HLO.out _).mono ?_
                rintro e w2 ⟨rfl, b2⟩
                have hz2 := HZ0.out.keep b2
                have HZ2 := Lib.hid hz2
                have HB2 := Lib.hid (below_then HB0.out HB0.out.size b2)
                have hb3 : Below w2.heap.size w2 (w2.alloc (.cells #[.string nm, .string ⟨#[]⟩] 71)) := (Below.refl _ _).alloc (Nat.le_refl _) _
                have HB3 := Lib.hid (below_then HB2.out HB2.out.size hb3)
                have HZ3 := Lib.hid (hz2.keep hb3)
                have HY3 := Lib.hid (Blk.new w2 71 #[.string nm, .string ⟨#[]⟩] (0, 0))
                obtain ⟨zz0, zz1, ff0, ff1⟩ := cells2 hz2
                have hlt := hz2.lt
                have HB2S := Lib.hid HB2.out.size
                clear b2 hb3 hz2
                go_wp2_with fail
                refine (HSK.out _).mono ?_
                rintro e w' ⟨rfl, rfl⟩
                go_wp2_with fail
                refine (HST.out _).mono ?_
                rintro e w' ⟨rfl, rfl⟩
                go_wp2_with fail
                refine (HSK2.out _).mono ?_
                rintro e w' ⟨rfl, rfl⟩
                go_wp2_with fail
                refine (HF.out _).mono ?_
                rintro e w' ⟨rfl, rfl⟩
                go_wp2_with fail
                refine (HAL.out _ _).mono ?_
                rintro e w5 ⟨rfl, b5⟩
                have hz5 := HZ3.out.keep b5
                have hy5 := HY3.out.keep b5
                have HB5 := Lib.hid (below_then HB3.out HB3.out.size b5)
                obtain ⟨z0, z1, f0, f1⟩ := cells2 hz5
                obtain ⟨y0, y1, g0, g1⟩ := cells2 hy5
                have hne : w2.heap.size ≠ w.heap.size := by omega
                have hne2 : w.heap.size ≠ w2.heap.size := by omega
                clear b5 hz5 hy5
                go_wp2_with fail
                refine bodyPost_ret (v := .tuple #[.agg #[.string nm, .string (S (allR true (pieceL (B s) (t3 + 1) f)))], .int .i64 ((f : Int) + 1), .int .i64 1]) (by simp [results, Tryz.results79, go_sem, z0, z1]) rfl
                  ⟨ret_ar (by rw [HV.out]) (by rw [HV.out]; simp only; omega) (by rw [HV.out]; rfl), ?_⟩
                exact ((HB5.out.setCell (p := ⟨w2.heap.size, 1, none⟩) HB2S.out _).setCell (p := ⟨w.heap.size, 0, none⟩) (Nat.le_refl _) (.string nm)).setCell (p := ⟨w.heap.size, 1, none⟩) (Nat.le_refl _) _
          · have hvq : valueT (B s) t3 = bareT (B s) t3 := by
              unfold valueT
              rw [hat3]
              simp only
              rw [if_neg hq, if_neg h62]
            have hq2 : bareT (B s) t3 = if untilL (B s) valEnd t3 = s.size then ([], s.size, 0) else (allR true (pieceL (B s) t3 (untilL (B s) valEnd t3)), untilL (B s) valEnd t3, 1) := by unfold bareT; rw [HLE.out]
            have hF := fun w => runtilK s t3 ⟨#[9, 10, 12, 13, 32, 62]⟩ w hs h8 (by decide)
            rw [show B ⟨#[9, 10, 12, 13, 32, 62]⟩ = valEnd from rfl] at hF
            have hf := until_bd (B s) valEnd t3 (by rw [HLE.out]; omega)
            rw [HLE.out] at hf
            have e2 : ((s[t3].toNat : Int) == 34) = false := byte_ne (n := 34) (by decide) (fun h => hq (.inl h))
            have e3 : ((s[t3].toNat : Int) == 39) = false := byte_ne (n := 39) (by decide) (fun h => hq (.inr h))
            have HF := Lib.hid hF
            have HAL := Lib.hid (fun j w => rallP s t3 j w hs)
            have HVQ := Lib.hid (hvq.trans hq2)
            obtain ⟨q1, q2⟩ := hf
            clear hvq hq2 hF hat3 h62 hq
            generalize untilL (B s) valEnd t3 = f at *
            by_cases hfs : f = s.size
            · have HV : Hid (attrT (B s) k = (noAt, s.size, 0)) := HV0.out.trans (by rw [HVQ.out, if_pos hfs]; rfl)
              have d2 : ((f : Int) == (s.size : Int)) = true := by rw [hfs]; exact beq_self_eq_true _
              have HTS : Hid ((f : Int) = (s.size : Int)) := by show _ = _; rw [hfs]
              clear hfs HV0 HVQ
              go_enter Tryz.func79, Tryz.ntmps79
              go_wp2_with fail
              refine (HU.out _).mono ?_
              rintro e w' ⟨rfl, rfl⟩
              go_wp2_with fail
              refine (HLO.out _).mono ?_
              rintro e w2 ⟨rfl, b2⟩
              have hz2 := HZ0.out.keep b2
              have HZ2 := Lib.hid hz2
              have HB2 := Lib.hid (below_then HB0.out HB0.out.size b2)
              have hb3 : Below w2.heap.size w2 (w2.alloc (.cells #[.string nm, .string ⟨#[]⟩] 71)) := (Below.refl _ _).alloc (Nat.le_refl _) _
              have HB3 := Lib.hid (below_then HB2.out HB2.out.size hb3)
              have HZ3 := Lib.hid (hz2.keep hb3)
              have HY3 := Lib.hid (Blk.new w2 71 #[.string nm, .string ⟨#[]⟩] (0, 0))
              obtain ⟨zz0, zz1, ff0, ff1⟩ := cells2 hz2
              have hlt := hz2.lt
              have HB2S := Lib.hid HB2.out.size
              clear b2 hb3 hz2
              go_wp2_with fail
              refine (HSK.out _).mono ?_
              rintro e w' ⟨rfl, rfl⟩
              go_wp2_with fail
              refine (HST.out _).mono ?_
              rintro e w' ⟨rfl, rfl⟩
              go_wp2_with fail
              refine (HSK2.out _).mono ?_
              rintro e w' ⟨rfl, rfl⟩
              go_wp2_with fail
              refine (HF.out _).mono ?_
              rintro e w' ⟨rfl, rfl⟩
              go_wp2_with fail
              have hzf : Blk (((w2.setCell ⟨w.heap.size, 0, none⟩ (.string ⟨#[]⟩)).setCell ⟨w.heap.size, 1, none⟩ (.string ⟨#[]⟩)).alloc (.cells #[.string nm, .string ⟨#[]⟩] 71)) w.heap.size 71 #[.string ⟨#[]⟩, .string ⟨#[]⟩] (0, 0) := ((HZ2.out.set 0 (.string ⟨#[]⟩)).set 1 (.string ⟨#[]⟩)).alloc _
              obtain ⟨r0, r1, _, _⟩ := cells2 hzf
              refine bodyPost_ret (v := .tuple #[.agg #[.string ⟨#[]⟩, .string ⟨#[]⟩], .int .i64 (f : Int), .int .i64 0]) (by simp [results, Tryz.results79, go_sem, r0, r1]) rfl
                ⟨ret_ar (by rw [HV.out]; rfl) (by rw [HV.out]; exact HTS.out) (by rw [HV.out]; rfl), ?_⟩
              have h6 := (HB2.out.setCell (p := ⟨w.heap.size, 0, none⟩) (Nat.le_refl _) (.string ⟨#[]⟩)).setCell (p := ⟨w.heap.size, 1, none⟩) (Nat.le_refl _) (.string ⟨#[]⟩)
              exact h6.alloc h6.size _
            · have HV : Hid (attrT (B s) k = (⟨nm, S (allR true (pieceL (B s) t3 f))⟩, f, 1)) := HV0.out.trans (by rw [HVQ.out, if_neg hfs]; rfl)
              have d2 : ((f : Int) == (s.size : Int)) = false := by rw [beq_eq_false_iff_ne]; omega
              clear hfs HV0 HVQ
              go_enter Tryz.func79, Tryz.ntmps79
              go_wp2_with fail
              refine (HU.out _).mono ?_
              rintro e w' ⟨rfl, rfl⟩
              go_wp2_with fail
              refine (HLO.out _).mono ?_
              rintro e w2 ⟨rfl, b2⟩
              have hz2 := HZ0.out.keep b2
              have HZ2 := Lib.hid hz2
              have HB2 := Lib.hid (below_then HB0.out HB0.out.size b2)
              have hb3 : Below w2.heap.size w2 (w2.alloc (.cells #[.string nm, .string ⟨#[]⟩] 71)) := (Below.refl _ _).alloc (Nat.le_refl _) _
              have HB3 := Lib.hid (below_then HB2.out HB2.out.size hb3)
              have HZ3 := Lib.hid (hz2.keep hb3)
              have HY3 := Lib.hid (Blk.new w2 71 #[.string nm, .string ⟨#[]⟩] (0, 0))
              obtain ⟨zz0, zz1, ff0, ff1⟩ := cells2 hz2
              have hlt := hz2.lt
              have HB2S := Lib.hid HB2.out.size
              clear b2 hb3 hz2
              go_wp2_with fail
              refine (HSK.out _).mono ?_
              rintro e w' ⟨rfl, rfl⟩
              go_wp2_with fail
              refine (HST.out _).mono ?_
              rintro e w' ⟨rfl, rfl⟩
              go_wp2_with fail
              refine (HSK2.out _).mono ?_
              rintro e w' ⟨rfl, rfl⟩
              go_wp2_with fail
              refine (HF.out _).mono ?_
              rintro e w' ⟨rfl, rfl⟩
              go_wp2_with fail
              refine (HAL.out _ _).mono ?_
              rintro e w5 ⟨rfl, b5⟩
              have hz5 := HZ3.out.keep b5
              have hy5 := HY3.out.keep b5
              have HB5 := Lib.hid (below_then HB3.out HB3.out.size b5)
              obtain ⟨z0, z1, f0, f1⟩ := cells2 hz5
              obtain ⟨y0, y1, g0, g1⟩ := cells2 hy5
              have hne : w2.heap.size ≠ w.heap.size := by omega
              have hne2 : w.heap.size ≠ w2.heap.size := by omega
              clear b5 hz5 hy5
              go_wp2_with fail
              refine bodyPost_ret (v := .tuple #[.agg #[.string nm, .string (S (allR true (pieceL (B s) t3 f)))], .int .i64 (f : Int), .int .i64 1]) (by simp [results, Tryz.results79, go_sem, z0, z1]) rfl
                ⟨ret_ar (by rw [HV.out]) (by rw [HV.out]) (by rw [HV.out]; rfl), ?_⟩
              exact ((HB5.out.setCell (p := ⟨w2.heap.size, 1, none⟩) HB2S.out _).setCell (p := ⟨w.heap.size, 0, none⟩) (Nat.le_refl _) (.string nm)).setCell (p := ⟨w.heap.size, 1, none⟩) (Nat.le_refl _) _
end
end Go.Proofs.YtdjeajbinpgpiaaGreat
