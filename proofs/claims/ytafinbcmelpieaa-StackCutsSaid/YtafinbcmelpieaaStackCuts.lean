/- StackCuts, walked. -/
import Derived.Test.YtafinbcmelpieaaStackL
import Derived.Test.YtafinbcmelpieaaScanL
import Derived.Deep.DeepCutAuto
namespace Go.Proofs.Ytafinbcmelpieaa
open Go.RowKit

set_option maxHeartbeats 2000000 in
set_option maxRecDepth 100000 in
theorem walk_StackCuts (A : Option Addr) (c : Nat) (l : List Int) (at_ x : Int) (w : World) (hr : Rd w A l.length 1 (l.flatMap enc_int)) (hlc : l.length ≤ c) (hcm : c ≤ maxLen) :
    Calls Try.prog 9 #[.slice A l.length c, .int .i64 at_, .int .i64 x] w fun e w' => e = .returned (.bool true) ∧ Below w.heap.size w w' := by
  unfold maxLen at hcm
  have HR := Lib.hid hr
  clear hr
  go_enter Try.func9, Try.ntmps9
  go_upto_if 16 with (fail)
  go_cut [0] (fun s0 wx => ∃ l' : List Int, s0 = .slice A l'.length c ∧ Rd w A l'.length 1 (l'.flatMap enc_int) ∧ l'.length ≤ 100 ∧ wx = w)
  case first =>
    by_cases hl : l.length > 100
    · have d0 : decide ((l.length : Int) > 100) = true := decide_eq_true (by omega)
      have s1 : (100 : Int) ≤ (c : Int) := by omega
      go_wp2_with fail
      go_meet
      have e : (l.take 100).length = 100 := by rw [List.length_take]; omega
      refine ⟨l.take 100, by rw [e], ?_, by omega, rfl⟩
      rw [e, ← row_take encOk_int]
      exact HR.out.take 100 (by omega)
    · have d0 : decide ((l.length : Int) > 100) = false := decide_eq_false (by omega)
      go_wp2_with fail
      go_meet
      exact ⟨l, rfl, HR.out, by omega, rfl⟩
  case rest =>
    obtain ⟨l', rfl, hr', hl', rfl⟩ := hcut
    clear HR hlc
    have HR := Lib.hid hr'
    clear hr'
    generalize hB : wc.heap.size = B
    have hB0 : B ≤ wc.heap.size := by omega
    go_wp2_with fail
    refine (newB_int B wc hB0).mono ?_
    rintro e w1 ⟨rfl, h1, b1⟩
    rw [hB] at h1 ⊢
    go_wp2_with fail
    go_loopw [8] (fun i wr => ∃ j : Nat, j ≤ l'.length ∧ i = .int .i64 j ∧ PX_int B wr B (l'.take j) ∧ Below B wc wr) (fun i _ => l'.length - (intOf i).toNat)
    case atStart => exact ⟨0, Nat.zero_le _, rfl, h1, hB ▸ b1⟩
    case round =>
      obtain ⟨j, hj, rfl, hp, hb⟩ := hrel
      have HB := Lib.hid hb
      have HP := Lib.hid hp
      clear hp hb h1 b1
      by_cases hlt : j < l'.length
      · have d0 : decide ((j : Int) < (l'.length : Int)) = true := decide_eq_true (by omega)
        obtain ⟨y, hy⟩ : ∃ y, l'[j]? = some y := ⟨_, List.getElem?_eq_getElem hlt⟩
        obtain ⟨a1, rfl, hc1⟩ := (HR.out.keep (hB.symm ▸ HB.out)).2.2 (by omega)
        have k1 := hc1 j _ (by have := row_at encOk_int l' j 0 y _ hy rfl; simpa using this)
        have s1 : IntKind.i64.wrap ((j : Int) + 1) = (j : Int) + 1 := IntWalk.i64_in _ (by omega)
        have hY := Lib.hid hy
        clear hc1 hy
        go_wp2_with fail
        refine (pushB_int B _ _ _ y HP.out (by rw [List.length_take]; omega)).mono ?_
        rintro e w2 ⟨rfl, h2, b2⟩
        have h2' : PX_int B w2 B (l'.take (j + 1)) := by rw [List.take_add_one, hY.out]; exact h2
        have b2' := HB.out.trans b2
        clear h2 b2
        go_wp2_with fail
        exact ⟨⟨j + 1, by omega, by go_num, h2', b2'⟩, by simp [intOf]; omega⟩
      · have d0 : decide ((j : Int) < (l'.length : Int)) = false := decide_eq_false (by omega)
        have hp2 := HP.out
        rw [List.take_of_length_le (by omega)] at hp2
        have HP2 := Lib.hid hp2
        clear hp2
        go_wp2_with fail
        refine (bwithin_any _ _ _ _ (by omega) (by omega) (by omega)).mono ?_
        rintro e w1 ⟨rfl, rfl⟩
        obtain ⟨k, hk, hk1, hk2⟩ := nat_of (Int.le_refl 0) (withinI_bd at_ 0 l'.length (by omega))
        rw [hk]
        clear hk
        go_wp2_with fail
        refine (putB_int B _ _ _ k x HP2.out (by omega) (by omega)).mono ?_
        rintro e w2 ⟨rfl, h2, b2⟩
        have hpl := putL_len l' k x (by omega)
        go_wp2_with fail
        refine (lenB_int B _ _ _ h2).mono ?_
        rintro e w3 ⟨rfl, rfl⟩
        rw [hpl]
        go_wp2_with fail
        refine (atB_int B _ _ _ k h2).mono ?_
        rintro e w3 ⟨rfl, rfl⟩
        have hgx : (putL l' k x)[k]? = some x := by
          unfold putL
          rw [List.getElem?_append_right (by rw [List.length_take]; omega), List.length_take, show k - min k l'.length = 0 by omega]
          rfl
        rw [getL_nat, hgx]
        simp only [Option.elim, Option.isSome_some, val_int]
        have s2 : IntKind.i64.wrap ((l'.length : Int) + 2) = (l'.length : Int) + 2 := IntWalk.i64_in _ (by omega)
        have s3 : IntKind.i64.wrap ((l'.length : Int) + 1) = (l'.length : Int) + 1 := IntWalk.i64_in _ (by omega)
        go_wp2_with fail
        refine (putB_out_int B _ _ _ _ x h2 (.inr (by rw [hpl]; omega))).mono ?_
        rintro e w3 ⟨rfl, rfl⟩
        go_wp2_with fail
        refine (putB_out_int B _ _ _ _ x h2 (.inl (by omega))).mono ?_
        rintro e w3 ⟨rfl, rfl⟩
        go_wp2_with fail
        refine (cutB_int B _ _ _ k x h2 hgx).mono ?_
        rintro e w3 ⟨rfl, h3, b3⟩
        rw [cut_put _ _ _ (by omega)] at h3
        simp only [val_int]
        go_wp2_with fail
        refine (allB_int B _ _ _ h3 (by omega)).mono ?_
        rintro e w4 ⟨A4, c4, rfl, hc4, hr4, b4, _, _⟩
        have bb := (HB.out.trans b2).trans b3
        have hr0 : Rd w4 A l'.length 1 (l'.flatMap enc_int) := (HR.out.keep (hB.symm ▸ bb)).keep b4
        have HS := Lib.hid (same_int w4 A4 A c4 c l' l' hr4 hr0 (by omega))
        clear hr4 hr0 hc4
        go_wp2_with fail
        refine HS.out.mono ?_
        rintro e w5 ⟨rfl, b5⟩
        have b45 : Below B wc w5 := below_then (below_then bb (Nat.le_trans hB0 bb.size) b4) (Nat.le_trans hB0 (Nat.le_trans bb.size b4.size)) b5
        go_wp2_with fail
        refine (knownStack_any w5).mono ?_
        rintro e w6 ⟨rfl, b6⟩
        go_wp2_with fail
        go_ret
        exact ⟨rfl, hB ▸ below_then b45 (Nat.le_trans hB0 b45.size) b6⟩
end Go.Proofs.Ytafinbcmelpieaa
