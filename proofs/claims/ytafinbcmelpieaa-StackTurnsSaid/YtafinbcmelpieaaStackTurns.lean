/- StackTurns, walked. -/
import Derived.Test.YtafinbcmelpieaaStackL
import Derived.Test.YtafinbcmelpieaaScanL
import Derived.Deep.DeepCutAuto
namespace Go.Proofs.Ytafinbcmelpieaa
open Go.RowKit

set_option maxHeartbeats 2000000 in
set_option maxRecDepth 100000 in
theorem walk_StackTurns (A : Option Addr) (c : Nat) (l : List Int) (w : World) (hr : Rd w A l.length 1 (l.flatMap enc_int)) (hlc : l.length ≤ c) (hcm : c ≤ maxLen) :
    Calls Try.prog 10 #[.slice A l.length c] w fun e w' => e = .returned (.bool true) ∧ Below w.heap.size w w' := by
  unfold maxLen at hcm
  have HR := Lib.hid hr
  clear hr
  go_enter Try.func10, Try.ntmps10
  go_upto_if 14 with (fail)
  go_cut [0] (fun s0 wx => ∃ l' : List Int, s0 = .slice A l'.length c ∧ Rd w A l'.length 1 (l'.flatMap enc_int) ∧ l'.length ≤ 200 ∧ wx = w)
  case first =>
    by_cases hl : l.length > 200
    · have d0 : decide ((l.length : Int) > 200) = true := decide_eq_true (by omega)
      have s1 : (200 : Int) ≤ (c : Int) := by omega
      go_wp2_with fail
      go_meet
      have e : (l.take 200).length = 200 := by rw [List.length_take]; omega
      refine ⟨l.take 200, by rw [e], ?_, by omega, rfl⟩
      rw [e, ← row_take encOk_int]
      exact HR.out.take 200 (by omega)
    · have d0 : decide ((l.length : Int) > 200) = false := decide_eq_false (by omega)
      go_wp2_with fail
      go_meet
      exact ⟨l, rfl, HR.out, by omega, rfl⟩
  case rest =>
    obtain ⟨l', rfl, hr', hl', rfl⟩ := hcut
    clear HR hlc
    have HR := Lib.hid hr'
    clear hr'
    generalize hB : wc.heap.size = B
    have hB0 : B ≤ wc.heap.size := by omega
    go_wp2_with fail
    refine (newB_int B wc hB0).mono ?_
    rintro e w1 ⟨rfl, h1, b1⟩
    rw [hB] at h1 ⊢
    go_wp2_with fail
    go_loopw [4] (fun i wr => ∃ j : Nat, j ≤ l'.length ∧ i = .int .i64 j ∧ PX_int B wr B (l'.take j) ∧ Below B wc wr) (fun i _ => l'.length - (intOf i).toNat)
    case atStart => exact ⟨0, Nat.zero_le _, rfl, h1, hB ▸ b1⟩
    case round =>
      obtain ⟨j, hj, rfl, hp, hb⟩ := hrel
      have HB := Lib.hid hb
      have HP := Lib.hid hp
      clear hp hb h1 b1
      by_cases hlt : j < l'.length
      · have d0 : decide ((j : Int) < (l'.length : Int)) = true := decide_eq_true (by omega)
        obtain ⟨y, hy⟩ : ∃ y, l'[j]? = some y := ⟨_, List.getElem?_eq_getElem hlt⟩
        obtain ⟨a1, rfl, hc1⟩ := (HR.out.keep (hB.symm ▸ HB.out)).2.2 (by omega)
        have k1 := hc1 j _ (by have := row_at encOk_int l' j 0 y _ hy rfl; simpa using this)
        have s1 : IntKind.i64.wrap ((j : Int) + 1) = (j : Int) + 1 := IntWalk.i64_in _ (by omega)
        have hY := Lib.hid hy
        clear hc1 hy
        go_wp2_with fail
        refine (pushB_int B _ _ _ y HP.out (by rw [List.length_take]; omega)).mono ?_
        rintro e w2 ⟨rfl, h2, b2⟩
        have h2' : PX_int B w2 B (l'.take (j + 1)) := by rw [List.take_add_one, hY.out]; exact h2
        have b2' := HB.out.trans b2
        clear h2 b2
        go_wp2_with fail
        exact ⟨⟨j + 1, by omega, by go_num, h2', b2'⟩, by simp [intOf]; omega⟩
      · have d0 : decide ((j : Int) < (l'.length : Int)) = false := decide_eq_false (by omega)
        have hp2 := HP.out
        rw [List.take_of_length_le (by omega)] at hp2
        have HP2 := Lib.hid hp2
        clear hp2
        go_wp2_with fail
        refine (allB_int B _ _ _ HP2.out (by omega)).mono ?_
        rintro e w4 ⟨A4, c4, rfl, hc4, hr4, b4, ho4, hg4⟩
        have b04 : Below B wc w4 := below_then HB.out (Nat.le_trans hB0 HB.out.size) b4
        have hr0 : Rd w4 A l'.length 1 (l'.flatMap enc_int) := HR.out.keep (hB.symm ▸ b04)
        have HS := Lib.hid (same_int w4 A4 A c4 c l' l' hr4 hr0 (by omega))
        have HO4 := Lib.hid ho4
        have HG4 := Lib.hid hg4
        clear hr4 hr0 ho4 hg4
        go_wp2_with fail
        refine HS.out.mono ?_
        rintro e w5 ⟨rfl, b5⟩
        have b05 : Below B wc w5 := below_then b04 (Nat.le_trans hB0 b04.size) b5
        obtain ⟨v, hpv, hfv, _⟩ := HP2.out
        have hvlt : ∀ k, foot B v k → ∀ g, (Value.slice A4 l'.length c4).ownBlock = some g → ¬ k = g := fun k hk g hg e => by
          have h1 := hpv.lt hk
          have h2 := HG4.out g hg
          omega
        have hpv5 : Pile_int w5 B v l' := (hpv.keep b4).keep b5
        have ho5 : w5.ownsRow 0 3 1 (.slice A4 l'.length c4) l'.length (l'.flatMap enc_int) := owns_but HO4.out (But.of_below b5) (S := fun _ => False) (fun _ _ h => h)
        have hge4 : ∀ g, (Value.slice A4 l'.length c4).ownBlock = some g → B ≤ g := fun g hg => by
          have := HG4.out g hg
          have := HB.out.size
          omega
        have HV := Lib.hid hvlt
        have HF := Lib.hid hfv
        have HGE := Lib.hid hge4
        clear hvlt hfv hpv HP2 HP HS HO4 HG4 b04 b4 b5 hge4
        go_wp2_with fail
        go_loopw [6] (fun i wr => ∃ (j : Nat) (xs : List Int), j ≤ l'.length ∧ xs.length = l'.length ∧ i = .int .i64 j ∧ Pile_int wr B v l' ∧ Below B wc wr ∧ wr.ownsRow 0 3 1 (.slice A4 l'.length c4) l'.length (xs.flatMap enc_int)) (fun i _ => l'.length - (intOf i).toNat)
        case atStart => exact ⟨0, l', Nat.zero_le _, rfl, rfl, hpv5, b05, ho5⟩
        case round =>
          obtain ⟨j2, xs, hj2, hxs, rfl, hp, hb, ho⟩ := hrel
          have HB2 := Lib.hid hb
          have HP2 := Lib.hid hp
          have HO2 := Lib.hid ho
          clear hp hb ho hpv5 b05 ho5
          by_cases hlt2 : j2 < l'.length
          · have d1 : decide ((j2 : Int) < (l'.length : Int)) = true := decide_eq_true (by omega)
            obtain ⟨g, cap, rest, hv4, _, hbk, hnc, hcm4, hrl⟩ := own_parts HO2.out (by omega)
            cases hv4
            obtain ⟨y, hy⟩ : ∃ y, xs[j2]? = some y := ⟨_, List.getElem?_eq_getElem (by omega)⟩
            have hjl : j2 < (xs.flatMap enc_int).length := by rw [row_len encOk_int]; omega
            have k1 : wr.cell? ⟨g, j2, none⟩ = some (.int .i64 y) := by
              rw [hbk.cell, List.getElem?_toArray, List.getElem?_append_left hjl]
              have := row_at encOk_int xs j2 0 y _ hy rfl
              simpa using this
            have f1 := hbk.frozen j2 (.inr (Nat.zero_le _))
            have s1 : IntKind.i64.wrap ((j2 : Int) + 1) = (j2 : Int) + 1 := IntWalk.i64_in _ (by omega)
            have hb' := own_set1 (u := .int .i64 (wrap64 (y + 1))) hbk hjl
            rw [show (xs.flatMap enc_int).set j2 (.int .i64 (wrap64 (y + 1))) = (xs.set j2 (wrap64 (y + 1))).flatMap enc_int from row_set1 (enc := enc_int) (val := val_int) (fun _ => rfl) xs j2 _] at hb'
            have ho' : (wr.setCell ⟨g, j2, none⟩ (.int .i64 (wrap64 (y + 1)))).ownsRow 0 3 1 (.slice (some ⟨g, 0, none⟩) l'.length c4) l'.length ((xs.set j2 (wrap64 (y + 1))).flatMap enc_int) :=
              own_of_blk (Nat.zero_le _) hb' (by rw [row_len encOk_int, List.length_set]; omega) hnc hcm4 hrl
            have hp' : Pile_int (wr.setCell ⟨g, j2, none⟩ (.int .i64 (wrap64 (y + 1)))) B v l' := HP2.out.but ((But.refl (fun k => k = g) wr).setCell _ _ (.inl rfl)) (fun k hk => HV.out k hk g rfl)
            have hbl' : Below B wc (wr.setCell ⟨g, j2, none⟩ (.int .i64 (wrap64 (y + 1)))) := HB2.out.setCell (HGE.out g rfl) _
            have HO' := Lib.hid ho'
            have HP' := Lib.hid hp'
            have HB' := Lib.hid hbl'
            clear ho' hp' hbl' hb' hbk hy
            go_wp2_with fail
            exact ⟨⟨j2 + 1, xs.set j2 (wrap64 (y + 1)), by omega, by rw [List.length_set]; exact hxs, by go_num, HP'.out, HB'.out, HO'.out⟩, by simp [intOf]; omega⟩
          · have d1 : decide ((j2 : Int) < (l'.length : Int)) = false := decide_eq_false (by omega)
            have hpx : PX_int B wr B l' := ⟨v, HP2.out, HF.out, Nat.le_trans hB0 HB2.out.size⟩
            have HPX := Lib.hid hpx
            clear hpx HP2 HO2 HF HGE HV
            have s1 : IntKind.i64.wrap ((l'.length : Int) - 1) = (l'.length : Int) - 1 := IntWalk.i64_in _ (by omega)
            go_wp2_with fail
            go_loopw [7] (fun i wr => ∃ j : Nat, j ≤ l'.length ∧ i = .int .i64 ((j : Int) - 1) ∧ PX_int B wr B (l'.take j) ∧ Below B wc wr) (fun i _ => (intOf i + 1).toNat)
            case atStart => exact ⟨l'.length, Nat.le_refl _, rfl, by rw [List.take_of_length_le (Nat.le_refl _)]; exact HPX.out, HB2.out⟩
            case round =>
              obtain ⟨j3, hj3, rfl, hp, hb⟩ := hrel
              have HB3 := Lib.hid hb
              have HP3 := Lib.hid hp
              clear hp hb
              cases j3 with
              | zero =>
                go_wp2_with fail
                refine (popB_none_int B _ _ HP3.out).mono ?_
                rintro e w6 ⟨rfl, rfl⟩
                go_wp2_with fail
                refine (allB_int B _ _ _ HP3.out (by simp)).mono ?_
                rintro e w6 ⟨A6, c6, rfl, hc6, _, b6, _, _⟩
                have b06 := below_then HB3.out (Nat.le_trans hB0 HB3.out.size) b6
                go_wp2_with fail
                refine (knownStack_any w6).mono ?_
                rintro e w7 ⟨rfl, b7⟩
                go_wp2_with fail
                go_ret
                exact ⟨rfl, hB ▸ below_then b06 (Nat.le_trans hB0 b06.size) b7⟩
              | succ m =>
                have e1 : (((m + 1 : Nat) : Int) - 1) = (m : Int) := by omega
                rw [e1]
                have hm : m < l'.length := by omega
                obtain ⟨y, hy⟩ : ∃ y, l'[m]? = some y := ⟨_, List.getElem?_eq_getElem hm⟩
                have hp4 : PX_int B wr B (l'.take m ++ [y]) := by
                  have := HP3.out
                  rw [List.take_add_one, hy] at this
                  exact this
                obtain ⟨a1, rfl, hc1⟩ := (HR.out.keep (hB.symm ▸ HB3.out)).2.2 (by omega)
                have hc2 := fun j u hu => hc1 j u hu
                have s2 : IntKind.i64.wrap ((m : Int) - 1) = (m : Int) - 1 := IntWalk.i64_in _ (by omega)
                have HC1 := Lib.hid hc1
                have HP4 := Lib.hid hp4
                have HY := Lib.hid hy
                clear hp4 hc1 hc2 hy
                go_wp2_with fail
                refine (popB_int B _ _ _ _ HP4.out).mono ?_
                rintro e w6 ⟨rfl, h6, b6⟩
                simp only [val_int]
                have b06 := HB3.out.trans b6
                obtain ⟨a2, ea, hc2⟩ := (HR.out.keep (hB.symm ▸ b06)).2.2 (by omega)
                cases ea
                have k1 := hc2 m _ (by have := row_at encOk_int l' m 0 y _ HY.out rfl; simpa using this)
                clear hc2
                have hlm : (l'.take m).length = m := by rw [List.length_take]; omega
                go_wp2_with fail
                refine (lenB_int B _ _ _ h6).mono ?_
                rintro e w7 ⟨rfl, rfl⟩
                rw [hlm]
                go_wp2_with fail
                exact ⟨⟨m, by omega, rfl, h6, b06⟩, by simp [intOf]⟩
end Go.Proofs.Ytafinbcmelpieaa
