/- The reference's Has. -/
import Derived.Test.YtojpedgfllgbcaaDoorAttrs0
namespace Go.Proofs.YtojpedgfllgbcaaDoor
open Go.RowKit


set_option maxHeartbeats 1000000 in
theorem has7 (w : World) (A : Option Addr) (n c : Nat) (l : List At) (s : ByteArray) (h : RdA w A n l) (hb : n ≤ 9223372036854775807) :
    Calls Tryd.prog 106 #[.slice A n c, .string s] w fun e w' => e = .returned (.int .i64 (findA l s)) ∧ w = w' := by
  have H := Lib.hid h
  have HL := Lib.hid h.1
  clear h
  go_enter Tryd.func106, Tryd.ntmps106
  go_wp2_with fail
  go_loopw [5] (fun i wr => ∃ j : Nat, j ≤ n ∧ i = .int .i64 j ∧ wr = w ∧ (l.take j).any (nameP s) = false) (fun i _ => n - (intOf i).toNat)
  case atStart => exact ⟨0, Nat.zero_le _, rfl, rfl, rfl⟩
  case round =>
    obtain ⟨j, hj, rfl, rfl, ht⟩ := hrel
    have HT := Lib.hid ht
    clear ht
    by_cases hlt : j < n
    · obtain ⟨x, hx⟩ : ∃ x, l[j]? = some x := ⟨_, List.getElem?_eq_getElem (by have := HL.out; omega)⟩
      obtain ⟨a1, rfl, k1, k2⟩ := rdA_at H.out hx
      have s1 : IntKind.i64.wrap ((j : Int) + 1) = (j : Int) + 1 := IntWalk.i64_in _ (by omega)
      have hX := Lib.hid hx
      clear hx
      have d0 : decide ((j : Int) < (n : Int)) = true := decide_eq_true (by omega)
      cases hq : (x.name.toList == s.toList)
      · have HQ := Lib.hid hq
        go_wp2_with fail
        exact ⟨⟨j + 1, by omega, by go_num, by simp, by rw [any_take HT.out hX.out]; exact HQ.out⟩, by simp [intOf]; omega⟩
      · have HQ := Lib.hid hq
        go_wp2_with fail
        go_ret
        exact ⟨congrArg (fun b => Ending.returned (.int .i64 b)) (findA_hit HT.out hX.out HQ.out).symm, rfl⟩
    · have d0 : decide ((j : Int) < (n : Int)) = false := decide_eq_false (by omega)
      go_wp2_with fail
      go_ret
      have ht := HT.out
      rw [List.take_of_length_le (by have := HL.out; omega)] at ht
      exact ⟨congrArg (fun b => Ending.returned (.int .i64 b)) (findA_none ht).symm, rfl⟩
end Go.Proofs.YtojpedgfllgbcaaDoor
