/- Joined texts: TagP, TagA. -/
import Derived.Test.YtdjeajbinpgpiaaGreatJLexerTells2
import Derived.Test.YtdjeajbinpgpiaaGreatJLexerTells12
import Derived.Test.YtdjeajbinpgpiaaGreatJLexerTells13
namespace Go.Proofs.YtdjeajbinpgpiaaGreat
open Go.RowKit

theorem letter_at (s : ByteArray) (k : Nat) (w : World) :
    Calls Tryz.prog 65 #[.string s, .int .i64 (k : Int)] w fun e w' => e = .returned (.bool (((B s)[k]?).any letterB)) ∧ w = w' := by
  by_cases hk : k < s.size
  · rw [B_at s k hk]
    have HL := Lib.hid (letter_rune s[k] w)
    show Calls _ _ _ _ fun e w' => e = .returned (.bool (letterB s[k])) ∧ w = w'
    go_enter Tryz.func65, Tryz.ntmps65
    go_wp2_with fail
    refine HL.out.mono ?_
    rintro e w' ⟨rfl, rfl⟩
    go_wp2_with fail
    go_ret
    exact ⟨rfl, rfl⟩
  · rw [show (B s)[k]? = none by rw [List.getElem?_eq_none]; rw [← size_B]; omega]
    show Calls _ _ _ _ fun e w' => e = .returned (.bool false) ∧ w = w'
    go_enter Tryz.func65, Tryz.ntmps65
    go_wp2_with fail
    go_ret
    exact ⟨rfl, rfl⟩
theorem skipK (s : ByteArray) (k : Nat) (w : World) (hs : s.size ≤ 65536) (hk : k ≤ s.size) :
    Calls Tryz.prog 94 #[.string s, .int .i64 (k : Int)] w fun e w' => e = .returned (.int .i64 (skipL (B s) k : Nat)) ∧ w = w' := by
  have := skip_any s (k : Int) w (by omega)
  rw [clampN_nat k s.size hk] at this
  exact this
theorem untilK (s : ByteArray) (k : Nat) (set : ByteArray) (w : World) (hs : s.size ≤ 65536) (hk : k ≤ s.size) :
    Calls Tryz.prog 75 #[.string s, .int .i64 (k : Int), .string set] w fun e w' => e = .returned (.int .i64 (untilL (B s) (B set) k : Nat)) ∧ w = w' := by
  have := until_any s (k : Int) set w (by omega)
  rw [clampN_nat k s.size hk] at this
  exact this
theorem allP (s : ByteArray) (i j : Nat) (w : World) (hs : s.size ≤ 65536) (hw : Lax w) :
    Calls Tryz.prog 39 #[.string (s.extract i j), .bool true] w fun e w' => e = .returned (.string (S (allR true (pieceL (B s) i j)))) ∧ Below w.heap.size w w' := by
  have := all_any (s.extract i j) true w (by have := size_extract_le s i j; omega) hw
  rw [B_piece] at this
  exact this
def valV (v : Vt) : Value := .tuple #[.string (S v.1), .int .i64 (v.2.1 : Nat), .int .i64 (v.2.2 : Nat)]
theorem ret_val {a : ByteArray} {b c : Int} {v : Vt} (h1 : a = S v.1) (h2 : b = (v.2.1 : Nat)) (h3 : c = (v.2.2 : Nat)) : Ending.returned (.tuple #[.string a, .int .i64 b, .int .i64 c]) = .returned (valV v) := by rw [h1, h2, h3]; rfl
theorem byte_ne {c : UInt8} {n : Nat} (hn : n < 256) (h : c ≠ UInt8.ofNat n) : ((c.toNat : Int) == (n : Int)) = false := by
  rw [beq_eq_false_iff_ne]
  intro e
  exact h (UInt8.toNat_inj.1 (by rw [UInt8.toNat_ofNat']; omega))

section
variable (s : ByteArray) (k : Nat) (w : World) (hs : s.size ≤ 65536) (hw : Lax w)
include hs hw
set_option maxHeartbeats 2000000 in
set_option maxRecDepth 100000 in
theorem value_quot (c : UInt8) (hc : c = 34 ∨ c = 39) (hk : k < s.size) (hck : s[k] = c) :
    Calls Tryz.prog 113 #[.string s, .int .i64 (k : Int)] w fun e w' => e = .returned (valV (quotT (B s) c k)) ∧ Below w.heap.size w w' := by
  have hF := findK s (k + 1) ⟨#[c]⟩ w hs hw (by omega)
  rw [show B ⟨#[c]⟩ = [c] from rfl, show ((k + 1 : Nat) : Int) = (k : Int) + 1 by omega] at hF
  have h1 := find_bd (B s) [c] (k + 1) (by rw [← size_B]; omega)
  rw [← size_B] at h1
  have hq : Hid (quotT (B s) c k = if findL (B s) [c] (k + 1) = s.size then ([], s.size, 0) else (allR true (pieceL (B s) (k + 1) (findL (B s) [c] (k + 1))), findL (B s) [c] (k + 1) + 1, 1)) := by show _ = _; unfold quotT; rw [← size_B]
  have HF := Lib.hid hF
  have HW := Lib.hid hw
  have HA := Lib.hid (fun j w hw => allP s (k + 1) j w hs hw)
  have henc : Utf8.encode (wrap32 (s[k].toNat : Int)) = ⟨#[c]⟩ := by
    rw [hck, wrap_byte, enc_one (by rcases hc with rfl | rfl <;> decide), UInt8.ofNat_toNat]
  have e1 : ((s[k].toNat : Int) == 34) = true ∨ (((s[k].toNat : Int) == 34) = false ∧ ((s[k].toNat : Int) == 39) = true) := by
    rw [hck]
    rcases hc with rfl | rfl
    · exact .inl rfl
    · exact .inr ⟨rfl, rfl⟩
  obtain ⟨h2, h3⟩ := h1
  clear hF hw hc hck
  generalize findL (B s) [c] (k + 1) = t at *
  by_cases ht : t = s.size
  · have d0 : ((t : Int) == (s.size : Int)) = true := by rw [ht]; exact beq_self_eq_true _
    have HV : Hid (quotT (B s) c k = ([], s.size, 0)) := hq.out.trans (if_pos ht)
    clear ht hq
    rcases e1 with e1 | ⟨e1, e2⟩
    all_goals
      go_enter Tryz.func113, Tryz.ntmps113
      go_wp2_with fail
      refine HF.out.mono ?_
      rintro e w' ⟨rfl, rfl⟩
      go_wp2_with fail
      go_ret3
      exact ⟨ret_val (by rw [HV.out]; rfl) (by rw [HV.out]) (by rw [HV.out]; rfl), Below.refl _ _⟩
  · have d0 : ((t : Int) == (s.size : Int)) = false := by rw [beq_eq_false_iff_ne]; omega
    have HV : Hid (quotT (B s) c k = (allR true (pieceL (B s) (k + 1) t), t + 1, 1)) := hq.out.trans (if_neg ht)
    have htl : t < s.size := by omega
    clear ht hq
    rcases e1 with e1 | ⟨e1, e2⟩
    all_goals
      go_enter Tryz.func113, Tryz.ntmps113
      go_wp2_with fail
      refine HF.out.mono ?_
      rintro e w' ⟨rfl, rfl⟩
      go_wp2_with fail
      refine (HA.out _ _ HW.out).mono ?_
      rintro e w2 ⟨rfl, b2⟩
      have HB2 := Lib.hid b2
      clear b2
      go_wp2_with fail
      go_ret3
      exact ⟨ret_val (by rw [HV.out]) (by rw [HV.out]; simp only; omega) (by rw [HV.out]; rfl), HB2.out⟩
set_option maxHeartbeats 2000000 in
set_option maxRecDepth 100000 in
theorem value_any (hk : k ≤ s.size) :
    Calls Tryz.prog 113 #[.string s, .int .i64 (k : Int)] w fun e w' => e = .returned (valV (valueT (B s) k)) ∧ Below w.heap.size w w' := by
  by_cases hlt : k < s.size
  · have hat := B_at s k hlt
    by_cases hq : s[k] = 34 ∨ s[k] = 39
    · have := value_quot s k w hs hw s[k] hq hlt rfl
      rw [show quotT (B s) s[k] k = valueT (B s) k by unfold valueT; rw [hat]; simp only; rw [if_pos hq]] at this
      exact this
    · have hv0 : valueT (B s) k = if s[k] = 62 then ([], k + 1, 2) else bareT (B s) k := by unfold valueT; rw [hat]; simp only; rw [if_neg hq]
      have e1 : ((s[k].toNat : Int) == 34) = false := byte_ne (n := 34) (by omega) (fun e => hq (.inl e))
      have e2 : ((s[k].toNat : Int) == 39) = false := byte_ne (n := 39) (by omega) (fun e => hq (.inr e))
      clear hq hat
      by_cases h62 : s[k] = 62
      · have HV : Hid (valueT (B s) k = ([], k + 1, 2)) := hv0.trans (if_pos h62)
        have e3 : ((s[k].toNat : Int) == 62) = true := by rw [h62]; rfl
        clear hv0 h62
        go_enter Tryz.func113, Tryz.ntmps113
        go_wp2_with fail
        go_ret3
        exact ⟨ret_val (by rw [HV.out]; rfl) (by rw [HV.out]; simp only; omega) (by rw [HV.out]; rfl), Below.refl _ _⟩
      · have hv1 : valueT (B s) k = bareT (B s) k := hv0.trans (if_neg h62)
        have e3 : ((s[k].toNat : Int) == 62) = false := byte_ne (n := 62) (by omega) h62
        have hU := untilK s k ⟨#[9, 10, 12, 13, 32, 62]⟩ w hs hk
        rw [show B ⟨#[9, 10, 12, 13, 32, 62]⟩ = valEnd from rfl] at hU
        have h1 := until_bd (B s) valEnd k (by rw [← size_B]; omega)
        rw [← size_B] at h1
        have hb : bareT (B s) k = if untilL (B s) valEnd k = s.size then ([], s.size, 0) else (allR true (pieceL (B s) k (untilL (B s) valEnd k)), untilL (B s) valEnd k, 1) := by unfold bareT; rw [← size_B]
        have HU := Lib.hid hU
        have HW := Lib.hid hw
        have HA := Lib.hid (fun j w hw => allP s k j w hs hw)
        have HQ := Lib.hid (hv1.trans hb)
        obtain ⟨h2, h3⟩ := h1
        clear hv0 hv1 hb hU hw h62
        generalize untilL (B s) valEnd k = t at *
        by_cases ht : t = s.size
        · have d0 : ((t : Int) == (s.size : Int)) = true := by rw [ht]; exact beq_self_eq_true _
          have HV : Hid (valueT (B s) k = ([], s.size, 0)) := HQ.out.trans (if_pos ht)
          clear ht HQ
          go_enter Tryz.func113, Tryz.ntmps113
          go_wp2_with fail
          refine HU.out.mono ?_
          rintro e w' ⟨rfl, rfl⟩
          go_wp2_with fail
          go_ret3
          exact ⟨ret_val (by rw [HV.out]; rfl) (by rw [HV.out]) (by rw [HV.out]; rfl), Below.refl _ _⟩
        · have d0 : ((t : Int) == (s.size : Int)) = false := by rw [beq_eq_false_iff_ne]; omega
          have HV : Hid (valueT (B s) k = (allR true (pieceL (B s) k t), t, 1)) := HQ.out.trans (if_neg ht)
          clear ht HQ
          go_enter Tryz.func113, Tryz.ntmps113
          go_wp2_with fail
          refine HU.out.mono ?_
          rintro e w' ⟨rfl, rfl⟩
          go_wp2_with fail
          refine (HA.out _ _ HW.out).mono ?_
          rintro e w2 ⟨rfl, b2⟩
          have HB2 := Lib.hid b2
          clear b2
          go_wp2_with fail
          go_ret3
          exact ⟨ret_val (by rw [HV.out]) (by rw [HV.out]) (by rw [HV.out]; rfl), HB2.out⟩
  · have HV : Hid (valueT (B s) k = ([], s.size, 0)) := by
      show _ = _
      unfold valueT
      rw [show (B s)[k]? = none by rw [List.getElem?_eq_none]; rw [← size_B]; omega]
      simp only
      rw [← size_B]
    go_enter Tryz.func113, Tryz.ntmps113
    go_wp2_with fail
    go_ret3
    exact ⟨ret_val (by rw [HV.out]; rfl) (by rw [HV.out]) (by rw [HV.out]; rfl), Below.refl _ _⟩
end
end Go.Proofs.YtdjeajbinpgpiaaGreat

namespace Go.Proofs.YtdjeajbinpgpiaaGreat
open Go.RowKit

def arV (r : Ar) : Value := .tuple #[val_at r.1, .int .i64 (r.2.1 : Nat), .int .i64 (r.2.2 : Nat)]
theorem ret_ar {a b : ByteArray} {n h : Int} {r : Ar} (h1 : r.1 = ⟨a, b⟩) (h2 : n = (r.2.1 : Nat)) (h3 : h = (r.2.2 : Nat)) : Ending.returned (.tuple #[.agg #[.string a, .string b], .int .i64 n, .int .i64 h]) = .returned (arV r) := by
  unfold arV val_at; rw [h1, h2, h3]
def zeroA : Array Value := #[.string ⟨#[]⟩, .string ⟨#[]⟩]
theorem cells2 {w : World} {b : Nat} {t : TypeId} {u v : Value} (h : Blk w b t #[u, v] (0, 0)) : w.cell? ⟨b, 0, none⟩ = some u ∧ w.cell? ⟨b, 1, none⟩ = some v ∧ w.frozen? ⟨b, 0, none⟩ = false ∧ w.frozen? ⟨b, 1, none⟩ = false :=
  ⟨h.cell 0, h.cell 1, h.frozen 0 (.inr (Nat.zero_le _)), h.frozen 1 (.inr (Nat.zero_le _))⟩
theorem lowK (s : ByteArray) (i j : Nat) (w : World) (hs : s.size ≤ 65536) :
    Calls Tryz.prog 66 #[.string (s.extract i j)] w fun e w' => e = .returned (.string (S (lowL (pieceL (B s) i j)))) ∧ Below w.heap.size w w' := by
  have := lower_any (s.extract i j) w (by have := size_extract_le s i j; omega)
  rw [B_piece] at this
  exact this

section
variable (s : ByteArray) (k : Nat) (w : World) (hs : s.size ≤ 65536) (hw : Lax w) (hk : k < s.size)
include hs hw hk
set_option maxHeartbeats 4000000 in
set_option maxRecDepth 100000 in
theorem attr_any :
    Calls Tryz.prog 95 #[.string s, .int .i64 (k : Int)] w fun e w' => e = .returned (arV (attrT (B s) k)) ∧ Below w.heap.size w w' := by
  have hL : (B s).length = s.size := (size_B s).symm
  have hbd := nameEnd_bd (B s) k (by rw [hL]; exact hk)
  have hU := fun w => untilK s (k + 1) ⟨#[9, 10, 12, 13, 32, 47, 62, 61]⟩ w hs (by omega)
  rw [show B ⟨#[9, 10, 12, 13, 32, 47, 62, 61]⟩ = endsT from rfl, show ((k + 1 : Nat) : Int) = (k : Int) + 1 by omega, show untilL (B s) endsT (k + 1) = nameEnd (B s) k by unfold nameEnd; rw [Nat.min_eq_left (by rw [hL]; omega)]] at hU
  have HU := Lib.hid hU
  have hat : attrT (B s) k = if nameEnd (B s) k = s.size then (noAt, s.size, 0) else attrV (B s) k (nameEnd (B s) k) := by unfold attrT; rw [hL]
  have HQ := Lib.hid hat
  have HLE := Lib.hid hL
  have HW := Lib.hid hw
  have hb0 : Below w.heap.size w (w.alloc (.cells #[.string ⟨#[]⟩, .string ⟨#[]⟩] 71)) := (Below.refl _ _).alloc (Nat.le_refl _) _
  have hz0 := Blk.new w 71 #[.string ⟨#[]⟩, .string ⟨#[]⟩] (0, 0)
  have HB0 := Lib.hid hb0
  have HZ0 := Lib.hid hz0
  have hmx : max (k : Int) 0 = (k : Int) := by omega
  rw [hL] at hbd
  obtain ⟨h1, h2⟩ := hbd
  clear hU hat hw hL hb0
  generalize nameEnd (B s) k = t at *
  by_cases ht : t = s.size
  · have HV : Hid (attrT (B s) k = (noAt, s.size, 0)) := HQ.out.trans (if_pos ht)
    have d0 : ((t : Int) == (s.size : Int)) = true := by rw [ht]; exact beq_self_eq_true _
    obtain ⟨z0, z1, f0, f1⟩ := cells2 hz0
    clear ht HQ hz0
    go_enter Tryz.func95, Tryz.ntmps95
    go_wp2_with fail
    refine (HU.out _).mono ?_
    rintro e w' ⟨rfl, rfl⟩
    go_wp2_with fail
    refine bodyPost_ret (v := .tuple #[.agg #[.string ⟨#[]⟩, .string ⟨#[]⟩], .int .i64 (s.size : Int), .int .i64 0]) (by simp [results, Tryz.results95, go_sem]) rfl
      ⟨ret_ar (by rw [HV.out]; rfl) (by rw [HV.out]) (by rw [HV.out]; rfl), HB0.out⟩
  · have hv1 : attrT (B s) k = attrV (B s) k t := HQ.out.trans (if_neg ht)
    have d0 : ((t : Int) == (s.size : Int)) = false := by rw [beq_eq_false_iff_ne]; omega
    have HLO := Lib.hid (fun w => lowK s k t w hs)
    have HSK := Lib.hid (fun w => skipK s t w hs h2)
    have h3 := skip_bd (B s) t (by rw [HLE.out]; exact h2)
    rw [HLE.out] at h3
    have hav : attrV (B s) k t = if startsL (B s) [61] (skipL (B s) t) = true then
      (if (valueT (B s) (skipL (B s) (skipL (B s) t + 1))).2.2 = 0 then (noAt, s.size, 0)
       else (⟨S (lowL (pieceL (B s) k t)), S (valueT (B s) (skipL (B s) (skipL (B s) t + 1))).1⟩, (valueT (B s) (skipL (B s) (skipL (B s) t + 1))).2.1, (valueT (B s) (skipL (B s) (skipL (B s) t + 1))).2.2))
      else (⟨S (lowL (pieceL (B s) k t)), ⟨#[]⟩⟩, skipL (B s) t, 1) := by unfold attrV; rw [HLE.out]
    have HV0 := Lib.hid (hv1.trans hav)
    generalize S (lowL (pieceL (B s) k t)) = nm at *
    generalize skipL (B s) t = t2 at *
    obtain ⟨h4, h5⟩ := h3
    have HST := Lib.hid (fun w => startsK s t2 ⟨#[61]⟩ w hs h5)
    rw [show B ⟨#[61]⟩ = [61] from rfl] at HST
    clear ht HQ hz0 hv1 hav
    cases hst : startsL (B s) [61] t2 with
    | false =>
      rw [hst] at HST HV0
      have HV : Hid (attrT (B s) k = (⟨nm, ⟨#[]⟩⟩, t2, 1)) := HV0.out
      clear hst HV0
      go_enter Tryz.func95, Tryz.ntmps95
      go_wp2_with fail
      refine (HU.out _).mono ?_
      rintro e w' ⟨rfl, rfl⟩
      go_wp2_with fail
      refine (HLO.out _).mono ?_
      rintro e w2 ⟨rfl, b2⟩
      have hz2 := HZ0.out.keep b2
      have HZ2 := Lib.hid hz2
      have HB2 := Lib.hid (below_then HB0.out HB0.out.size b2)
      have hb3 : Below w2.heap.size w2 (w2.alloc (.cells #[.string nm, .string ⟨#[]⟩] 71)) := (Below.refl _ _).alloc (Nat.le_refl _) _
      have HB3 := Lib.hid (below_then HB2.out HB2.out.size hb3)
      have hz3 := hz2.keep hb3
      obtain ⟨z0, z1, f0, f1⟩ := cells2 hz2
      obtain ⟨y0, y1, g0, g1⟩ := cells2 hz3
      have hlt := hz2.lt
      clear b2 hb3 hz2 hz3
      go_wp2_with fail
      refine (HSK.out _).mono ?_
      rintro e w' ⟨rfl, rfl⟩
      go_wp2_with fail
      refine (HST.out _).mono ?_
      rintro e w' ⟨rfl, rfl⟩
      go_wp2_with fail
      have hzf : Blk (((w2.setCell ⟨w.heap.size, 0, none⟩ (.string nm)).setCell ⟨w.heap.size, 1, none⟩ (.string ⟨#[]⟩)).alloc (.cells #[.string nm, .string ⟨#[]⟩] 71)) w.heap.size 71 #[.string nm, .string ⟨#[]⟩] (0, 0) := ((HZ2.out.set 0 (.string nm)).set 1 (.string ⟨#[]⟩)).alloc _
      obtain ⟨r0, r1, _, _⟩ := cells2 hzf
      refine bodyPost_ret (v := .tuple #[.agg #[.string nm, .string ⟨#[]⟩], .int .i64 (t2 : Int), .int .i64 1]) (by simp [results, Tryz.results95, go_sem, r0, r1]) rfl
        ⟨ret_ar (by rw [HV.out]) (by rw [HV.out]) (by rw [HV.out]; rfl), ?_⟩
      have h6 := (HB2.out.setCell (p := ⟨w.heap.size, 0, none⟩) (Nat.le_refl _) (.string nm)).setCell (p := ⟨w.heap.size, 1, none⟩) (Nat.le_refl _) (.string ⟨#[]⟩)
      exact h6.alloc h6.size _
    | true =>
      rw [hst] at HST HV0
      have hs61 := (starts_lt hst).1
      rw [HLE.out] at hs61
      have HSK2 := Lib.hid (fun w => skipK s (t2 + 1) w hs (by omega))
      rw [show ((t2 + 1 : Nat) : Int) = (t2 : Int) + 1 by omega] at HSK2
      have h6 := skip_bd (B s) (t2 + 1) (by rw [HLE.out]; omega)
      rw [HLE.out] at h6
      rw [if_pos rfl] at HV0
      generalize skipL (B s) (t2 + 1) = t3 at *
      obtain ⟨h7, h8⟩ := h6
      have h9 := value_bd (B s) t3 (by rw [HLE.out]; exact h8)
      rw [HLE.out] at h9
      have HVA := Lib.hid (fun w hw => value_any s t3 w hs hw h8)
      unfold valV at HVA
      generalize valueT (B s) t3 = v at *
      obtain ⟨vt, vp, vh⟩ := v
      simp only at h9 HVA HV0
      have hvh : vh ≤ 2 := h9.2.2.1
      have hvp : vp ≤ s.size := h9.2.1
      clear h9 hst
      by_cases hz : vh = 0
      · have HV : Hid (attrT (B s) k = (noAt, s.size, 0)) := HV0.out.trans (if_pos hz)
        have d1 : ((vh : Int) == 0) = true := by rw [hz]; rfl
        clear hz HV0
        go_enter Tryz.func95, Tryz.ntmps95
        go_wp2_with fail
        refine (HU.out _).mono ?_
        rintro e w' ⟨rfl, rfl⟩
        go_wp2_with fail
        refine (HLO.out _).mono ?_
        rintro e w2 ⟨rfl, b2⟩
        have hz2 := HZ0.out.keep b2
        have HZ2 := Lib.hid hz2
        have HB2 := Lib.hid (below_then HB0.out HB0.out.size b2)
        have hb3 : Below w2.heap.size w2 (w2.alloc (.cells #[.string nm, .string ⟨#[]⟩] 71)) := (Below.refl _ _).alloc (Nat.le_refl _) _
        have HB3 := Lib.hid (below_then HB2.out HB2.out.size hb3)
        have HZ3 := Lib.hid (hz2.keep hb3)
        have hlt := hz2.lt
        clear b2 hb3 hz2
        go_wp2_with fail
        refine (HSK.out _).mono ?_
        rintro e w' ⟨rfl, rfl⟩
        go_wp2_with fail
        refine (HST.out _).mono ?_
        rintro e w' ⟨rfl, rfl⟩
        go_wp2_with fail
        refine (HSK2.out _).mono ?_
        rintro e w' ⟨rfl, rfl⟩
        go_wp2_with fail
        refine (HVA.out _ (HW.out.below HB3.out)).mono ?_
        rintro e w5 ⟨rfl, b5⟩
        have hz5 := HZ3.out.keep b5
        have HB5 := Lib.hid (below_then HB3.out HB3.out.size b5)
        obtain ⟨z0, z1, f0, f1⟩ := cells2 hz5
        clear b5 hz5
        go_wp2_with fail
        refine bodyPost_ret (v := .tuple #[.agg #[.string ⟨#[]⟩, .string ⟨#[]⟩], .int .i64 (s.size : Int), .int .i64 0]) (by simp [results, Tryz.results95, go_sem, z0, z1]) rfl
          ⟨ret_ar (by rw [HV.out]; rfl) (by rw [HV.out]) (by rw [HV.out]; rfl), ?_⟩
        exact (HB5.out.setCell (p := ⟨w.heap.size, 0, none⟩) (Nat.le_refl _) (.string ⟨#[]⟩)).setCell (p := ⟨w.heap.size, 1, none⟩) (Nat.le_refl _) (.string ⟨#[]⟩)
      · have HV : Hid (attrT (B s) k = (⟨nm, S vt⟩, vp, vh)) := HV0.out.trans (if_neg hz)
        have d1 : ((vh : Int) == 0) = false := by rw [beq_eq_false_iff_ne]; omega
        clear hz HV0
        go_enter Tryz.func95, Tryz.ntmps95
        go_wp2_with fail
        refine (HU.out _).mono ?_
        rintro e w' ⟨rfl, rfl⟩
        go_wp2_with fail
        refine (HLO.out _).mono ?_
        rintro e w2 ⟨rfl, b2⟩
        have hz2 := HZ0.out.keep b2
        have HZ2 := Lib.hid hz2
        have HB2 := Lib.hid (below_then HB0.out HB0.out.size b2)
        have hb3 : Below w2.heap.size w2 (w2.alloc (.cells #[.string nm, .string ⟨#[]⟩] 71)) := (Below.refl _ _).alloc (Nat.le_refl _) _
        have HB3 := Lib.hid (below_then HB2.out HB2.out.size hb3)
        have HZ3 := Lib.hid (hz2.keep hb3)
        have HY3 := Lib.hid (Blk.new w2 71 #[.string nm, .string ⟨#[]⟩] (0, 0))
        have hlt := hz2.lt
        have HB2S := Lib.hid HB2.out.size
        clear b2 hb3 hz2
        go_wp2_with fail
        refine (HSK.out _).mono ?_
        rintro e w' ⟨rfl, rfl⟩
        go_wp2_with fail
        refine (HST.out _).mono ?_
        rintro e w' ⟨rfl, rfl⟩
        go_wp2_with fail
        refine (HSK2.out _).mono ?_
        rintro e w' ⟨rfl, rfl⟩
        go_wp2_with fail
        refine (HVA.out _ (HW.out.below HB3.out)).mono ?_
        rintro e w5 ⟨rfl, b5⟩
        have hz5 := HZ3.out.keep b5
        have hy5 := HY3.out.keep b5
        have HB5 := Lib.hid (below_then HB3.out HB3.out.size b5)
        obtain ⟨z0, z1, f0, f1⟩ := cells2 hz5
        obtain ⟨y0, y1, g0, g1⟩ := cells2 hy5
        have hne : w2.heap.size ≠ w.heap.size := by omega
        have hne2 : w.heap.size ≠ w2.heap.size := by omega
        clear b5 hz5 hy5
        go_wp2_with fail
        refine bodyPost_ret (v := .tuple #[.agg #[.string nm, .string (S vt)], .int .i64 (vp : Int), .int .i64 (vh : Int)]) (by simp [results, Tryz.results95, go_sem, z0, z1]) rfl
          ⟨ret_ar (by rw [HV.out]) (by rw [HV.out]) (by rw [HV.out]), ?_⟩
        exact ((HB5.out.setCell (p := ⟨w2.heap.size, 1, none⟩) HB2S.out (.string (S vt))).setCell (p := ⟨w.heap.size, 0, none⟩) (Nat.le_refl _) (.string nm)).setCell (p := ⟨w.heap.size, 1, none⟩) (Nat.le_refl _) (.string (S vt))
end
end Go.Proofs.YtdjeajbinpgpiaaGreat
