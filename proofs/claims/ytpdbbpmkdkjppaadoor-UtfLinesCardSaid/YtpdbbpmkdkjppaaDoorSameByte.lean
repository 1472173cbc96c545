/- arbourbook.Same at b. -/
import Derived.Test.YtpdbbpmkdkjppaaDoorUtfM
import Derived.Deep.QuietTactic
import Derived.BigQuiet
namespace Go.Proofs.YtpdbbpmkdkjppaaDoor
open Go.RowKit

set_option maxHeartbeats 1000000 in
theorem same_b (w : World) (A1 A2 : Option Addr) (c1 c2 : Nat) (l1 l2 : List UInt8) (h1 : Rd w A1 l1.length 1 (l1.flatMap enc_b)) (h2 : Rd w A2 l2.length 1 (l2.flatMap enc_b)) (hb1 : l1.length ≤ 9223372036854775807) :
    Calls Tryd.prog 27 #[.slice A1 l1.length c1, .slice A2 l2.length c2] w fun e w' => e = .returned (.bool (decide (l1 = l2))) ∧ Below w.heap.size w w' := by
  by_cases hlen : l1.length = l2.length
  · rw [hlen] at h1 hb1 ⊢
    generalize hn : l2.length = n at *
    have H1 := Lib.hid h1
    have H2 := Lib.hid h2
    have HN := Lib.hid hn
    have HL := Lib.hid hlen
    clear h1 h2 hn hlen
    go_enter Tryd.func27, Tryd.ntmps27
    go_wp2_with fail
    go_loopw [5] (fun i wr => ∃ j : Nat, j ≤ n ∧ i = .int .i64 j ∧ Below w.heap.size w wr ∧ l1.take j = l2.take j) (fun i _ => n - (intOf i).toNat)
    case atStart => exact ⟨0, Nat.zero_le _, rfl, Below.refl _ _, rfl⟩
    case round =>
      obtain ⟨j, hj, rfl, hb, ht⟩ := hrel
      have HB := Lib.hid hb
      have HT := Lib.hid ht
      clear hb ht
      by_cases hlt : j < n
      · have hj1 : j < l1.length := by rw [HL.out]; exact hlt
        have hj2 : j < l2.length := by rw [HN.out]; exact hlt
        obtain ⟨x, hx⟩ : ∃ x, l1[j]? = some x := ⟨_, List.getElem?_eq_getElem hj1⟩
        obtain ⟨y, hy⟩ : ∃ y, l2[j]? = some y := ⟨_, List.getElem?_eq_getElem hj2⟩
        obtain ⟨a1, rfl, hc1⟩ := (H1.out.keep HB.out).2.2 (by omega)
        obtain ⟨a2, rfl, hc2⟩ := (H2.out.keep HB.out).2.2 (by omega)
        have k1 := hc1 j _ (by have := row_at encOk_b l1 j 0 x _ hx rfl; simpa using this)
        have k2 := hc2 j _ (by have := row_at encOk_b l2 j 0 y _ hy rfl; simpa using this)
        have s1 : IntKind.i64.wrap ((j : Int) + 1) = (j : Int) + 1 := IntWalk.i64_in _ (by omega)
        have hX := Lib.hid hx
        have hY := Lib.hid hy
        clear hx hy hc1 hc2 hj1 hj2
        have d0 : decide ((j : Int) < (n : Int)) = true := decide_eq_true (by omega)
        by_cases hxy : x = y
        · have HE := Lib.hid hxy
          subst hxy
          go_wp2_with fail
          go_quiet (fail)
          go_wp2_with fail
          exact ⟨⟨j + 1, by omega, by go_num, below_drewN HB.out _, same_step HT.out hX.out hY.out rfl⟩, by simp [intOf]; omega⟩
        · have q0 : ¬ x.toNat = y.toNat := fun e => hxy (UInt8.toNat_inj.1 e)
          go_wp2_with fail
          go_quiet (fail)
          go_wp2_with fail
          go_ret
          have hne : decide (l1 = l2) = false := decide_eq_false (fun e => hxy (by
            have h1 := hX.out
            rw [e, hY.out] at h1
            exact (Option.some.inj h1).symm))
          exact ⟨congrArg (fun b => Ending.returned (.bool b)) hne.symm, below_drewN HB.out _⟩
      · have d0 : decide ((j : Int) < (n : Int)) = false := decide_eq_false (by omega)
        go_wp2_with fail
        go_ret
        have hq : decide (l1 = l2) = true := decide_eq_true (same_end HT.out (by rw [HL.out]; omega) (by rw [HL.out, HN.out]))
        exact ⟨congrArg (fun b => Ending.returned (.bool b)) hq.symm, HB.out⟩
  · have hne : l1 ≠ l2 := fun e => hlen (by rw [e])
    have hni : ¬ ((l1.length : Int) = (l2.length : Int)) := by omega
    rw [decide_eq_false hne]
    go_enter Tryd.func27, Tryd.ntmps27
    go_wp2_with fail
    go_ret
    exact ⟨rfl, Below.refl _ _⟩
end Go.Proofs.YtpdbbpmkdkjppaaDoor
