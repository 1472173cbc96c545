/- names.Raw, names.Void, serial.verbatim; the reference's Raw, in, Void. -/
import Derived.Test.YtojpedgfllgbcaaDoorSerR
namespace Go.Proofs.YtojpedgfllgbcaaDoor
open Go.RowKit

theorem ret_boolN {a b : Bool} (h : a = b) : Ending.returned (.bool a) = .returned (.bool b) := by rw [h]
theorem ret_intN {a b : Int} (h : a = b) : Ending.returned (.int .i64 a) = .returned (.int .i64 b) := by rw [h]
theorem nraw_any (w : World) (s : ByteArray) (scr : Bool) : Calls Tryd.prog 98 #[.string s, .bool scr] w fun e w' => e = .returned (.int .i64 (rawK s scr)) ∧ w = w' := by
  cases scr
  all_goals
    go_enter Tryd.func98, Tryd.ntmps98
    go_wp2_with fail
    all_goals
      go_ret
      refine ⟨ret_intN ?_, rfl⟩
      simp_all [rawK, isNm, rcN, rawN, noscrN, plainN]
theorem rraw_any (w : World) (s : ByteArray) (scr : Bool) : Calls Tryd.prog 61 #[.string s, .bool scr] w fun e w' => e = .returned (.int .i64 (rawK s scr)) ∧ w = w' := by
  cases scr
  all_goals
    go_enter Tryd.func61, Tryd.ntmps61
    go_wp2_with fail
    all_goals
      go_ret
      refine ⟨ret_intN ?_, rfl⟩
      first
        | (simp_all [rawK, isNm, rcN, rawN, noscrN, plainN]; done)
        | (have hp := toList_inj (s := s) (t := plainN) (by assumption); subst hp; decide +kernel)
theorem nvoid_any (w : World) (s : ByteArray) : Calls Tryd.prog 69 #[.string s] w fun e w' => e = .returned (.bool (isNm s voidN)) ∧ w = w' := by
  go_enter Tryd.func69, Tryd.ntmps69
  go_wp2_with fail
  all_goals
    go_ret
    refine ⟨ret_boolN ?_, rfl⟩
    simp_all [isNm, voidN]

set_option maxHeartbeats 1000000 in
theorem in_any (w : World) (A : Option Addr) (c : Nat) (l : List ByteArray) (s : ByteArray) (h : Rd w A l.length 1 (strs l)) (hb : l.length ≤ 9223372036854775807) :
    Calls Tryd.prog 97 #[.string s, .slice A l.length c] w fun e w' => e = .returned (.bool (isNm s l)) ∧ w = w' := by
  have H := Lib.hid h
  clear h
  go_enter Tryd.func97, Tryd.ntmps97
  go_wp2_with fail
  go_loopw [5] (fun i wr => ∃ j : Nat, j ≤ l.length ∧ i = .int .i64 j ∧ wr = w ∧ inB s (l.take j) = false) (fun i _ => l.length - (intOf i).toNat)
  case atStart => exact ⟨0, Nat.zero_le _, rfl, rfl, rfl⟩
  case round =>
    obtain ⟨j, hj, rfl, rfl, ht⟩ := hrel
    have HT := Lib.hid ht
    clear ht
    by_cases hlt : j < l.length
    · obtain ⟨x, hx⟩ : ∃ x, l[j]? = some x := ⟨_, List.getElem?_eq_getElem hlt⟩
      obtain ⟨a1, rfl, hc1⟩ := H.out.2.2 (by omega)
      have k1 := strs_at hc1 hx
      have s1 : IntKind.i64.wrap ((j : Int) + 1) = (j : Int) + 1 := IntWalk.i64_in _ (by omega)
      have d0 : decide ((j : Int) < (l.length : Int)) = true := decide_eq_true (by omega)
      have HX := Lib.hid (inB_take HT.out hx)
      clear hc1 hx
      cases hq : (x.toList == s.toList)
      · have HQ := Lib.hid (show (s.toList == x.toList) = false by rw [BEq.comm]; exact hq)
        go_wp2_with fail
        exact ⟨⟨j + 1, by omega, by go_num, by simp, by rw [HX.out]; exact HQ.out⟩, by simp [intOf]; omega⟩
      · have HQ := Lib.hid (show (s.toList == x.toList) = true by rw [BEq.comm]; exact hq)
        go_wp2_with fail
        go_ret
        exact ⟨ret_boolN (inB_hit (HX.out.trans HQ.out)).symm, rfl⟩
    · have d0 : decide ((j : Int) < (l.length : Int)) = false := decide_eq_false (by omega)
      have ht := HT.out
      rw [List.take_of_length_le (by omega)] at ht
      have HE := Lib.hid ht
      clear ht
      go_wp2_with fail
      go_ret
      exact ⟨ret_boolN HE.out.symm, rfl⟩
theorem rvoid_any (w : World) (s : ByteArray) : Calls Tryd.prog 82 #[.string s] w fun e w' => e = .returned (.bool (isNm s voidN)) ∧ Below w.heap.size w w' := by
  have H := fun W => in_any (W.alloc (.cells (strs voidN).toArray 9)) (some ⟨W.heap.size, 0, none⟩) 12 voidN s (rd_lit W _ voidN) (by decide)
  go_enter Tryd.func82, Tryd.ntmps82
  go_wp2_with fail
  refine (H _).mono ?_
  rintro e w' ⟨rfl, rfl⟩
  go_wp2_with fail
  go_ret
  exact ⟨rfl, (Below.refl _ _).alloc (Nat.le_refl _) _⟩

/-- serial.verbatim at a node. -/
theorem verbatim_any (w : World) (a : Addr) (l : Lab) (k : Fo) (scr : Bool) (h : NodeAt w a l k) :
    Calls Tryd.prog 83 #[.pointer (some a), .bool scr] w fun e w' => e = .returned (.bool (verbL scr l)) ∧ w = w' := by
  obtain ⟨b, o, sp⟩ := a
  obtain ⟨rfl, p, _, c0, c1, c2, _⟩ := h.lit
  have HR := Lib.hid (nraw_any w l.name scr)
  unfold verbL
  clear h
  cases h1 : (l.kind == 3)
  · have h1' : (l.kind != 3) = true := by rw [bne, h1]; rfl
    go_enter Tryd.func83, Tryd.ntmps83
    go_wp2_with fail
    go_ret
    exact ⟨rfl, rfl⟩
  · have h1' : (l.kind != 3) = false := by rw [bne, h1]; rfl
    cases h2 : (l.ns == 1)
    · have h2' : (l.ns != 1) = true := by rw [bne, h2]; rfl
      go_enter Tryd.func83, Tryd.ntmps83
      go_wp2_with fail
      go_ret
      exact ⟨rfl, rfl⟩
    · have h2' : (l.ns != 1) = false := by rw [bne, h2]; rfl
      cases h3 : (rawK l.name scr == 3)
      all_goals
        go_enter Tryd.func83, Tryd.ntmps83
        go_wp2_with fail
        refine HR.out.mono ?_
        rintro e w' ⟨rfl, rfl⟩
        go_wp2_with fail
        go_ret
        exact ⟨rfl, rfl⟩
end Go.Proofs.YtojpedgfllgbcaaDoor
