/- Attributes: the reference's Same, Has; arbourkeep.Attrs. -/
import Derived.Test.YtjghkiphfpeocaaAttrs0
namespace Go.Proofs.Ytjghkiphfpeocaa
open Go.RowKit

set_option maxHeartbeats 1000000 in
theorem same7 (w : World) (A1 A2 : Option Addr) (n1 n2 c1 c2 : Nat) (l1 l2 : List At) (h1 : RdA w A1 n1 l1) (h2 : RdA w A2 n2 l2) (hb1 : n1 ≤ 9223372036854775807) :
    Calls Try.prog 56 #[.slice A1 n1 c1, .slice A2 n2 c2] w fun e w' => e = .returned (.bool (decide (l1 = l2))) ∧ Below w.heap.size w w' := by
  by_cases hlen : n1 = n2
  · subst hlen
    have H1 := Lib.hid h1
    have H2 := Lib.hid h2
    have HL1 := Lib.hid h1.1
    have HL2 := Lib.hid h2.1
    clear h1 h2
    go_enter Try.func56, Try.ntmps56
    go_wp2_with fail
    go_loopw [5] (fun i wr => ∃ j : Nat, j ≤ n1 ∧ i = .int .i64 j ∧ Below w.heap.size w wr ∧ l1.take j = l2.take j) (fun i _ => n1 - (intOf i).toNat)
    case atStart => exact ⟨0, Nat.zero_le _, rfl, Below.refl _ _, rfl⟩
    case round =>
      obtain ⟨j, hj, rfl, hb, ht⟩ := hrel
      have HB := Lib.hid hb
      have HT := Lib.hid ht
      clear hb ht
      by_cases hlt : j < n1
      · obtain ⟨x, hx⟩ : ∃ x, l1[j]? = some x := ⟨_, List.getElem?_eq_getElem (by have := HL1.out; omega)⟩
        obtain ⟨y, hy⟩ : ∃ y, l2[j]? = some y := ⟨_, List.getElem?_eq_getElem (by have := HL2.out; omega)⟩
        obtain ⟨a1, rfl, k1, k2⟩ := rdA_at (H1.out.keep HB.out) hx
        obtain ⟨a2, rfl, m1, m2⟩ := rdA_at (H2.out.keep HB.out) hy
        have s1 : IntKind.i64.wrap ((j : Int) + 1) = (j : Int) + 1 := IntWalk.i64_in _ (by omega)
        have hX := Lib.hid hx
        have hY := Lib.hid hy
        clear hx hy
        have d0 : decide ((j : Int) < (n1 : Int)) = true := decide_eq_true (by omega)
        obtain ⟨bq, hbq⟩ : ∃ b, ((x.name.toList == y.name.toList) && (x.val.toList == y.val.toList)) = b := ⟨_, rfl⟩
        cases bq
        · have HQ := Lib.hid hbq
          have hnq := neq_at x.name x.val y.name y.val
          rw [hbq] at hnq
          clear hbq
          go_wp2_with fail
          go_quiet (fail)
          go_wp2_with fail
          go_ret
          have hne : decide (l1 = l2) = false := decide_eq_false (fun e => by
            have h1 := hX.out
            rw [e, hY.out] at h1
            obtain rfl := Option.some.inj h1
            have := HQ.out
            simp at this)
          exact ⟨congrArg (fun b => Ending.returned (.bool b)) hne.symm, below_drewN HB.out _⟩
        · have HQ := Lib.hid hbq
          have hnq := neq_at x.name x.val y.name y.val
          rw [hbq] at hnq
          clear hbq
          go_wp2_with fail
          go_quiet (fail)
          go_wp2_with fail
          refine ⟨⟨j + 1, by omega, by go_num, below_drewN HB.out _, same_step HT.out hX.out hY.out ?_⟩, by simp [intOf]; omega⟩
          have hq := HQ.out
          rw [Bool.and_eq_true] at hq
          cases x; cases y
          rw [At.mk.injEq]
          exact ⟨toList_inj hq.1, toList_inj hq.2⟩
      · have d0 : decide ((j : Int) < (n1 : Int)) = false := decide_eq_false (by omega)
        go_wp2_with fail
        go_ret
        have hq : decide (l1 = l2) = true := decide_eq_true (same_end HT.out (by have := HL1.out; omega) (by have := HL1.out; have := HL2.out; omega))
        exact ⟨congrArg (fun b => Ending.returned (.bool b)) hq.symm, HB.out⟩
  · have hne : l1 ≠ l2 := fun e => hlen (by rw [h1.1, h2.1, e])
    have hni : ¬ ((n1 : Int) = (n2 : Int)) := by omega
    rw [decide_eq_false hne]
    clear hlen h1 h2
    go_enter Try.func56, Try.ntmps56
    go_wp2_with fail
    go_ret
    exact ⟨rfl, Below.refl _ _⟩

theorem attrs_keep (w : World) (A1 A2 : Option Addr) (n1 n2 c1 c2 : Nat) (l1 l2 : List At) (h1 : RdA w A1 n1 l1) (h2 : RdA w A2 n2 l2) (hb1 : n1 ≤ 9223372036854775807) :
    Calls Try.prog 43 #[.slice A1 n1 c1, .slice A2 n2 c2] w fun e w' => e = .returned (.bool (decide (l1 = l2))) ∧ Below w.heap.size w w' := by
  have H := Lib.hid (same7 w A1 A2 n1 n2 c1 c2 l1 l2 h1 h2 hb1)
  clear h1 h2
  go_enter Try.func43, Try.ntmps43
  go_wp2_with fail
  refine H.out.mono ?_
  rintro e w' ⟨rfl, hb⟩
  go_wp2_with fail
  go_ret
  exact ⟨rfl, hb⟩

set_option maxHeartbeats 1000000 in
theorem has7 (w : World) (A : Option Addr) (n c : Nat) (l : List At) (s : ByteArray) (h : RdA w A n l) (hb : n ≤ 9223372036854775807) :
    Calls Try.prog 55 #[.slice A n c, .string s] w fun e w' => e = .returned (.int .i64 (findA l s)) ∧ w = w' := by
  have H := Lib.hid h
  have HL := Lib.hid h.1
  clear h
  go_enter Try.func55, Try.ntmps55
  go_wp2_with fail
  go_loopw [5] (fun i wr => ∃ j : Nat, j ≤ n ∧ i = .int .i64 j ∧ wr = w ∧ (l.take j).any (nameP s) = false) (fun i _ => n - (intOf i).toNat)
  case atStart => exact ⟨0, Nat.zero_le _, rfl, rfl, rfl⟩
  case round =>
    obtain ⟨j, hj, rfl, rfl, ht⟩ := hrel
    have HT := Lib.hid ht
    clear ht
    by_cases hlt : j < n
    · obtain ⟨x, hx⟩ : ∃ x, l[j]? = some x := ⟨_, List.getElem?_eq_getElem (by have := HL.out; omega)⟩
      obtain ⟨a1, rfl, k1, k2⟩ := rdA_at H.out hx
      have s1 : IntKind.i64.wrap ((j : Int) + 1) = (j : Int) + 1 := IntWalk.i64_in _ (by omega)
      have hX := Lib.hid hx
      clear hx
      have d0 : decide ((j : Int) < (n : Int)) = true := decide_eq_true (by omega)
      cases hq : (x.name.toList == s.toList)
      · have HQ := Lib.hid hq
        go_wp2_with fail
        exact ⟨⟨j + 1, by omega, by go_num, by simp, by rw [any_take HT.out hX.out]; exact HQ.out⟩, by simp [intOf]; omega⟩
      · have HQ := Lib.hid hq
        go_wp2_with fail
        go_ret
        exact ⟨congrArg (fun b => Ending.returned (.int .i64 b)) (findA_hit HT.out hX.out HQ.out).symm, rfl⟩
    · have d0 : decide ((j : Int) < (n : Int)) = false := decide_eq_false (by omega)
      go_wp2_with fail
      go_ret
      have ht := HT.out
      rw [List.take_of_length_le (by have := HL.out; omega)] at ht
      exact ⟨congrArg (fun b => Ending.returned (.int .i64 b)) (findA_none ht).symm, rfl⟩
end Go.Proofs.Ytjghkiphfpeocaa
