/- tag.letter, tag.value, tag.Attr. -/
import Derived.Test.YtdjeajbinpgpiaaPl
import Derived.Test.YtdjeajbinpgpiaaAll
import Derived.Test.YtdjeajbinpgpiaaScanP
import Derived.Test.YtdjeajbinpgpiaaAddP
namespace Go.Proofs.Ytdjeajbinpgpiaa
open Go.RowKit

theorem letter_at (s : ByteArray) (k : Nat) (w : World) :
    Calls Try.prog 47 #[.string s, .int .i64 (k : Int)] w fun e w' => e = .returned (.bool (((B s)[k]?).any letterB)) ∧ w = w' := by
  by_cases hk : k < s.size
  · rw [B_at s k hk]
    have HL := Lib.hid (letter_rune s[k] w)
    show Calls _ _ _ _ fun e w' => e = .returned (.bool (letterB s[k])) ∧ w = w'
    go_enter Try.func47, Try.ntmps47
    go_wp2_with fail
    refine HL.out.mono ?_
    rintro e w' ⟨rfl, rfl⟩
    go_wp2_with fail
    go_ret
    exact ⟨rfl, rfl⟩
  · rw [show (B s)[k]? = none by rw [List.getElem?_eq_none]; rw [← size_B]; omega]
    show Calls _ _ _ _ fun e w' => e = .returned (.bool false) ∧ w = w'
    go_enter Try.func47, Try.ntmps47
    go_wp2_with fail
    go_ret
    exact ⟨rfl, rfl⟩
theorem skipK (s : ByteArray) (k : Nat) (w : World) (hs : s.size ≤ 65536) (hk : k ≤ s.size) :
    Calls Try.prog 66 #[.string s, .int .i64 (k : Int)] w fun e w' => e = .returned (.int .i64 (skipL (B s) k : Nat)) ∧ w = w' := by
  have := skip_any s (k : Int) w (by omega)
  rw [clampN_nat k s.size hk] at this
  exact this
theorem untilK (s : ByteArray) (k : Nat) (set : ByteArray) (w : World) (hs : s.size ≤ 65536) (hk : k ≤ s.size) :
    Calls Try.prog 55 #[.string s, .int .i64 (k : Int), .string set] w fun e w' => e = .returned (.int .i64 (untilL (B s) (B set) k : Nat)) ∧ w = w' := by
  have := until_any s (k : Int) set w (by omega)
  rw [clampN_nat k s.size hk] at this
  exact this
theorem allP (s : ByteArray) (i j : Nat) (w : World) (hs : s.size ≤ 65536) (hw : Lax w) :
    Calls Try.prog 29 #[.string (s.extract i j), .bool true] w fun e w' => e = .returned (.string (S (allR true (pieceL (B s) i j)))) ∧ Below w.heap.size w w' := by
  have := all_any (s.extract i j) true w (by have := size_extract_le s i j; omega) hw
  rw [B_piece] at this
  exact this
def valV (v : Vt) : Value := .tuple #[.string (S v.1), .int .i64 (v.2.1 : Nat), .int .i64 (v.2.2 : Nat)]
theorem ret_val {a : ByteArray} {b c : Int} {v : Vt} (h1 : a = S v.1) (h2 : b = (v.2.1 : Nat)) (h3 : c = (v.2.2 : Nat)) : Ending.returned (.tuple #[.string a, .int .i64 b, .int .i64 c]) = .returned (valV v) := by rw [h1, h2, h3]; rfl
theorem byte_ne {c : UInt8} {n : Nat} (hn : n < 256) (h : c ≠ UInt8.ofNat n) : ((c.toNat : Int) == (n : Int)) = false := by
  rw [beq_eq_false_iff_ne]
  intro e
  exact h (UInt8.toNat_inj.1 (by rw [UInt8.toNat_ofNat']; omega))

section
variable (s : ByteArray) (k : Nat) (w : World) (hs : s.size ≤ 65536) (hw : Lax w)
include hs hw
set_option maxHeartbeats 2000000 in
set_option maxRecDepth 100000 in
theorem value_quot (c : UInt8) (hc : c = 34 ∨ c = 39) (hk : k < s.size) (hck : s[k] = c) :
    Calls Try.prog 84 #[.string s, .int .i64 (k : Int)] w fun e w' => e = .returned (valV (quotT (B s) c k)) ∧ Below w.heap.size w w' := by
  have hF := findK s (k + 1) ⟨#[c]⟩ w hs hw (by omega)
  rw [show B ⟨#[c]⟩ = [c] from rfl, show ((k + 1 : Nat) : Int) = (k : Int) + 1 by omega] at hF
  have h1 := find_bd (B s) [c] (k + 1) (by rw [← size_B]; omega)
  rw [← size_B] at h1
  have hq : Hid (quotT (B s) c k = if findL (B s) [c] (k + 1) = s.size then ([], s.size, 0) else (allR true (pieceL (B s) (k + 1) (findL (B s) [c] (k + 1))), findL (B s) [c] (k + 1) + 1, 1)) := by show _ = _; unfold quotT; rw [← size_B]
  have HF := Lib.hid hF
  have HW := Lib.hid hw
  have HA := Lib.hid (fun j w hw => allP s (k + 1) j w hs hw)
  have henc : Utf8.encode (wrap32 (s[k].toNat : Int)) = ⟨#[c]⟩ := by
    rw [hck, wrap_byte, enc_one (by rcases hc with rfl | rfl <;> decide), UInt8.ofNat_toNat]
  have e1 : ((s[k].toNat : Int) == 34) = true ∨ (((s[k].toNat : Int) == 34) = false ∧ ((s[k].toNat : Int) == 39) = true) := by
    rw [hck]
    rcases hc with rfl | rfl
    · exact .inl rfl
    · exact .inr ⟨rfl, rfl⟩
  obtain ⟨h2, h3⟩ := h1
  clear hF hw hc hck
  generalize findL (B s) [c] (k + 1) = t at *
  by_cases ht : t = s.size
  · have d0 : ((t : Int) == (s.size : Int)) = true := by rw [ht]; exact beq_self_eq_true _
    have HV : Hid (quotT (B s) c k = ([], s.size, 0)) := hq.out.trans (if_pos ht)
    clear ht hq
    rcases e1 with e1 | ⟨e1, e2⟩
    all_goals
      go_enter Try.func84, Try.ntmps84
      go_wp2_with fail
      refine HF.out.mono ?_
      rintro e w' ⟨rfl, rfl⟩
      go_wp2_with fail
      go_ret3
      exact ⟨ret_val (by rw [HV.out]; rfl) (by rw [HV.out]) (by rw [HV.out]; rfl), Below.refl _ _⟩
  · have d0 : ((t : Int) == (s.size : Int)) = false := by rw [beq_eq_false_iff_ne]; omega
    have HV : Hid (quotT (B s) c k = (allR true (pieceL (B s) (k + 1) t), t + 1, 1)) := hq.out.trans (if_neg ht)
    have htl : t < s.size := by omega
    clear ht hq
    rcases e1 with e1 | ⟨e1, e2⟩
    all_goals
      go_enter Try.func84, Try.ntmps84
      go_wp2_with fail
      refine HF.out.mono ?_
      rintro e w' ⟨rfl, rfl⟩
      go_wp2_with fail
      refine (HA.out _ _ HW.out).mono ?_
      rintro e w2 ⟨rfl, b2⟩
      have HB2 := Lib.hid b2
      clear b2
      go_wp2_with fail
      go_ret3
      exact ⟨ret_val (by rw [HV.out]) (by rw [HV.out]; simp only; omega) (by rw [HV.out]; rfl), HB2.out⟩
set_option maxHeartbeats 2000000 in
set_option maxRecDepth 100000 in
theorem value_any (hk : k ≤ s.size) :
    Calls Try.prog 84 #[.string s, .int .i64 (k : Int)] w fun e w' => e = .returned (valV (valueT (B s) k)) ∧ Below w.heap.size w w' := by
  by_cases hlt : k < s.size
  · have hat := B_at s k hlt
    by_cases hq : s[k] = 34 ∨ s[k] = 39
    · have := value_quot s k w hs hw s[k] hq hlt rfl
      rw [show quotT (B s) s[k] k = valueT (B s) k by unfold valueT; rw [hat]; simp only; rw [if_pos hq]] at this
      exact this
    · have hv0 : valueT (B s) k = if s[k] = 62 then ([], k + 1, 2) else bareT (B s) k := by unfold valueT; rw [hat]; simp only; rw [if_neg hq]
      have e1 : ((s[k].toNat : Int) == 34) = false := byte_ne (n := 34) (by omega) (fun e => hq (.inl e))
      have e2 : ((s[k].toNat : Int) == 39) = false := byte_ne (n := 39) (by omega) (fun e => hq (.inr e))
      clear hq hat
      by_cases h62 : s[k] = 62
      · have HV : Hid (valueT (B s) k = ([], k + 1, 2)) := hv0.trans (if_pos h62)
        have e3 : ((s[k].toNat : Int) == 62) = true := by rw [h62]; rfl
        clear hv0 h62
        go_enter Try.func84, Try.ntmps84
        go_wp2_with fail
        go_ret3
        exact ⟨ret_val (by rw [HV.out]; rfl) (by rw [HV.out]; simp only; omega) (by rw [HV.out]; rfl), Below.refl _ _⟩
      · have hv1 : valueT (B s) k = bareT (B s) k := hv0.trans (if_neg h62)
        have e3 : ((s[k].toNat : Int) == 62) = false := byte_ne (n := 62) (by omega) h62
        have hU := untilK s k ⟨#[9, 10, 12, 13, 32, 62]⟩ w hs hk
        rw [show B ⟨#[9, 10, 12, 13, 32, 62]⟩ = valEnd from rfl] at hU
        have h1 := until_bd (B s) valEnd k (by rw [← size_B]; omega)
        rw [← size_B] at h1
        have hb : bareT (B s) k = if untilL (B s) valEnd k = s.size then ([], s.size, 0) else (allR true (pieceL (B s) k (untilL (B s) valEnd k)), untilL (B s) valEnd k, 1) := by unfold bareT; rw [← size_B]
        have HU := Lib.hid hU
        have HW := Lib.hid hw
        have HA := Lib.hid (fun j w hw => allP s k j w hs hw)
        have HQ := Lib.hid (hv1.trans hb)
        obtain ⟨h2, h3⟩ := h1
        clear hv0 hv1 hb hU hw h62
        generalize untilL (B s) valEnd k = t at *
        by_cases ht : t = s.size
        · have d0 : ((t : Int) == (s.size : Int)) = true := by rw [ht]; exact beq_self_eq_true _
          have HV : Hid (valueT (B s) k = ([], s.size, 0)) := HQ.out.trans (if_pos ht)
          clear ht HQ
          go_enter Try.func84, Try.ntmps84
          go_wp2_with fail
          refine HU.out.mono ?_
          rintro e w' ⟨rfl, rfl⟩
          go_wp2_with fail
          go_ret3
          exact ⟨ret_val (by rw [HV.out]; rfl) (by rw [HV.out]) (by rw [HV.out]; rfl), Below.refl _ _⟩
        · have d0 : ((t : Int) == (s.size : Int)) = false := by rw [beq_eq_false_iff_ne]; omega
          have HV : Hid (valueT (B s) k = (allR true (pieceL (B s) k t), t, 1)) := HQ.out.trans (if_neg ht)
          clear ht HQ
          go_enter Try.func84, Try.ntmps84
          go_wp2_with fail
          refine HU.out.mono ?_
          rintro e w' ⟨rfl, rfl⟩
          go_wp2_with fail
          refine (HA.out _ _ HW.out).mono ?_
          rintro e w2 ⟨rfl, b2⟩
          have HB2 := Lib.hid b2
          clear b2
          go_wp2_with fail
          go_ret3
          exact ⟨ret_val (by rw [HV.out]) (by rw [HV.out]) (by rw [HV.out]; rfl), HB2.out⟩
  · have HV : Hid (valueT (B s) k = ([], s.size, 0)) := by
      show _ = _
      unfold valueT
      rw [show (B s)[k]? = none by rw [List.getElem?_eq_none]; rw [← size_B]; omega]
      simp only
      rw [← size_B]
    go_enter Try.func84, Try.ntmps84
    go_wp2_with fail
    go_ret3
    exact ⟨ret_val (by rw [HV.out]; rfl) (by rw [HV.out]) (by rw [HV.out]; rfl), Below.refl _ _⟩
end
end Go.Proofs.Ytdjeajbinpgpiaa
