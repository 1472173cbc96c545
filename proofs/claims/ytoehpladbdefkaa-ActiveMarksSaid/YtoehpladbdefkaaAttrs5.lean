/- Lists of attributes: Alike, of package attrs and of its reference. -/
import Derived.Test.YtoehpladbdefkaaAttrs4
import Derived.Deep.QuietTactic
import Derived.BigQuiet
namespace Go.Proofs.Ytoehpladbdefkaa
open Go.RowKit

set_option maxHeartbeats 2000000 in
set_option maxRecDepth 100000 in
theorem alike7 (w : World) (A A2 : Option Addr) (n c n2 c2 : Nat) (l m : List At) (h : RdA w A n l) (h2 : RdA w A2 n2 m) (hsz : n + 1 ≤ 4398046511104) (hsz2 : n2 + 1 ≤ 4398046511104) :
    Calls Try.prog 20 #[.slice A n c, .slice A2 n2 c2] w fun e w' => e = .returned (.bool (alikeA l m)) ∧ Below w.heap.size w w' := by
  have HU := Lib.hid (unique7 w A n c l h hsz)
  have H2 := Lib.hid h2
  have hul := uniqA_len l
  have hum := uniqA_len m
  rw [← h.1] at hul
  rw [← h2.1] at hum
  have hal : Hid (alikeA l m = ((uniqA l).all (alikeX (uniqA m)) && decide ((uniqA l).length = (uniqA m).length))) := rfl
  clear h h2
  go_enter Try.func20, Try.ntmps20
  go_wp2_with fail
  refine HU.out.mono ?_
  rintro e w1 ⟨v1, rfl, hrow1, b1⟩
  have HR1 := Lib.hid hrow1
  have HU2 := Lib.hid (unique7 w1 A2 n2 c2 m (H2.out.keep b1) hsz2)
  clear hrow1
  go_wp2_with fail
  refine HU2.out.mono ?_
  rintro e w2 ⟨v2, rfl, hrow2, b2⟩
  obtain ⟨A3, c3, rfl, hr3⟩ := (HR1.out.keep b2).read
  obtain ⟨A4, c4, rfl, hr4⟩ := hrow2.read
  have HB := Lib.hid (below_both b1 b2)
  have H3 := Lib.hid hr3
  have H4 := Lib.hid hr4
  clear hrow2 hr3 hr4 b1 b2
  generalize uniqA l = x at *
  generalize uniqA m = y at *
  go_wp2_with fail
  go_loopw [7] (fun i wr => ∃ j : Nat, j ≤ x.length ∧ i = .int .i64 j ∧ Below w2.heap.size w2 wr ∧ (x.take j).all (alikeX y) = true) (fun i _ => x.length - (intOf i).toNat)
  case atStart => exact ⟨0, Nat.zero_le _, rfl, Below.refl _ _, rfl⟩
  case round =>
    obtain ⟨j, hj, rfl, hb, ht⟩ := hrel
    have HT := Lib.hid ht
    have HBr := Lib.hid hb
    clear ht hb
    by_cases hlt : j < x.length
    · obtain ⟨u, hu⟩ : ∃ u, x[j]? = some u := ⟨_, List.getElem?_eq_getElem hlt⟩
      obtain ⟨a3, rfl, k1, k2⟩ := rdA_at (H3.out.keep HBr.out) hu
      have s1 : IntKind.i64.wrap ((j : Int) + 1) = (j : Int) + 1 := IntWalk.i64_in _ (by omega)
      have d0 : decide ((j : Int) < (x.length : Int)) = true := decide_eq_true (by omega)
      have HN := Lib.hid (all_take HT.out hu)
      have hh := has7 wr A4 y.length c4 y u.name (H4.out.keep HBr.out) (by omega)
      clear hu
      cases hq : y.any (nameP u.name)
      · rw [findA_none hq] at hh
        have HH := Lib.hid hh
        have HX := Lib.hid (alikeX_none hq)
        clear hh hq
        go_wp2_with fail
        refine HH.out.mono ?_
        rintro e w3 ⟨rfl, rfl⟩
        have d5 : decide ((-1 : Int) < 0) = true := by decide
        go_wp2_with fail
        go_quiet (fail)
        go_wp2_with fail
        go_ret
        refine ⟨?_, below_drewN (below_then HB.out HB.out.size HBr.out) _⟩
        have hf : alikeA l m = false := by rw [hal.out, all_cut (j := j + 1) (by rw [HN.out]; exact HX.out)]; rfl
        exact congrArg (fun b => Ending.returned (.bool b)) hf.symm
      · obtain ⟨k, z, hk, hz, hzn, hzf⟩ := findA_some hq
        rw [hk] at hh
        have HH := Lib.hid hh
        have hklt : k < y.length := (List.getElem?_eq_some_iff.1 hz).1
        obtain ⟨a4, rfl, m1, m2⟩ := rdA_at (H4.out.keep HBr.out) hz
        have HX := Lib.hid (alikeX_some (b := y) hzf)
        have d5 : decide ((k : Int) < 0) = false := decide_eq_false (by omega)
        have d6 : (0 : Int) ≤ (k : Int) := by omega
        have d7 : (k : Int) < (y.length : Int) := by omega
        clear hh hq hk hz hzn hzf
        cases hv : (z.val.toList == u.val.toList)
        · have HV := Lib.hid hv
          go_wp2_with fail
          refine HH.out.mono ?_
          rintro e w3 ⟨rfl, rfl⟩
          go_wp2_with fail
          go_quiet (fail)
          go_wp2_with fail
          go_ret
          refine ⟨?_, below_drewN (below_then HB.out HB.out.size HBr.out) _⟩
          have hf : alikeA l m = false := by rw [hal.out, all_cut (j := j + 1) (by rw [HN.out, HX.out]; exact HV.out)]; rfl
          exact congrArg (fun b => Ending.returned (.bool b)) hf.symm
        · have HV := Lib.hid hv
          go_wp2_with fail
          refine HH.out.mono ?_
          rintro e w3 ⟨rfl, rfl⟩
          go_wp2_with fail
          go_quiet (fail)
          go_wp2_with fail
          exact ⟨⟨j + 1, by omega, by go_num, below_drewN HBr.out _, by rw [HN.out, HX.out]; exact HV.out⟩, by simp [intOf]; omega⟩
    · have d0 : decide ((j : Int) < (x.length : Int)) = false := decide_eq_false (by omega)
      have ht := HT.out
      rw [List.take_of_length_le (by omega)] at ht
      have HE := Lib.hid ht
      clear ht
      by_cases hxy : x.length = y.length
      all_goals
        go_wp2_with fail
        go_ret
        refine ⟨?_, below_then HB.out HB.out.size HBr.out⟩
        rw [hal.out, HE.out]
        simp [hxy]
        try omega

set_option maxHeartbeats 2000000 in
set_option maxRecDepth 100000 in
theorem alike_at (w : World) (A A2 : Option Addr) (n c n2 c2 : Nat) (l m : List At) (h : RdA w A n l) (h2 : RdA w A2 n2 m) (hsz : n + 1 ≤ 4398046511104) (hsz2 : n2 + 1 ≤ 4398046511104) :
    Calls Try.prog 57 #[.slice A n c, .slice A2 n2 c2] w fun e w' => e = .returned (.bool (alikeA l m)) ∧ Below w.heap.size w w' := by
  have HU := Lib.hid (unique_at w A n c l h hsz)
  have H2 := Lib.hid h2
  have hul := uniqA_len l
  have hum := uniqA_len m
  rw [← h.1] at hul
  rw [← h2.1] at hum
  have hal : Hid (alikeA l m = ((uniqA l).all (alikeX (uniqA m)) && decide ((uniqA l).length = (uniqA m).length))) := rfl
  clear h h2
  go_enter Try.func57, Try.ntmps57
  go_wp2_with fail
  refine HU.out.mono ?_
  rintro e w1 ⟨v1, rfl, hrow1, b1⟩
  have HR1 := Lib.hid hrow1
  have HU2 := Lib.hid (unique_at w1 A2 n2 c2 m (H2.out.keep b1) hsz2)
  clear hrow1
  go_wp2_with fail
  refine HU2.out.mono ?_
  rintro e w2 ⟨v2, rfl, hrow2, b2⟩
  obtain ⟨A3, c3, rfl, hr3⟩ := (HR1.out.keep b2).read
  obtain ⟨A4, c4, rfl, hr4⟩ := hrow2.read
  have HB := Lib.hid (below_both b1 b2)
  have H3 := Lib.hid hr3
  have H4 := Lib.hid hr4
  clear hrow2 hr3 hr4 b1 b2
  generalize uniqA l = x at *
  generalize uniqA m = y at *
  by_cases hxy : x.length = y.length
  · have HXY := Lib.hid hxy
    have d9 : ((x.length : Int) != (y.length : Int)) = false := by simp [hxy]
    clear hxy
    go_wp2_with fail
    go_loopw [19] (fun i wr => ∃ j : Nat, j ≤ x.length ∧ i = .int .i64 j ∧ Below w2.heap.size w2 wr ∧ (x.take j).all (alikeX y) = true) (fun i _ => x.length - (intOf i).toNat)
    case atStart => exact ⟨0, Nat.zero_le _, rfl, Below.refl _ _, rfl⟩
    case round =>
      obtain ⟨j, hj, rfl, hb, ht⟩ := hrel
      have HT := Lib.hid ht
      have HBr := Lib.hid hb
      clear ht hb
      by_cases hlt : j < x.length
      · obtain ⟨u, hu⟩ : ∃ u, x[j]? = some u := ⟨_, List.getElem?_eq_getElem hlt⟩
        obtain ⟨a3, rfl, k1, k2⟩ := rdA_at (H3.out.keep HBr.out) hu
        have s1 : IntKind.i64.wrap ((j : Int) + 1) = (j : Int) + 1 := IntWalk.i64_in _ (by omega)
        have d0 : decide ((j : Int) < (x.length : Int)) = true := decide_eq_true (by omega)
        have HN := Lib.hid (all_take HT.out hu)
        have hba : Below wr.heap.size wr (wr.alloc (.cells (enc_at u).toArray 79)) := (Below.refl _ _).alloc (Nat.le_refl _) _
        have HBA := Lib.hid (below_then HBr.out HBr.out.size hba)
        have HX0 := Lib.hid (Blk.new wr 79 (enc_at u).toArray (0, 0))
        have hh := find_at _ A4 y.length c4 y u.name (H4.out.keep HBA.out) (by omega)
        clear hu hba
        cases hq : y.any (nameP u.name)
        · rw [findA_none hq] at hh
          have HH := Lib.hid hh
          have HX := Lib.hid (alikeX_none hq)
          clear hh hq
          go_wp2_with fail
          refine HH.out.mono ?_
          rintro e w3 ⟨rfl, b3⟩
          have HB3 := Lib.hid (below_then HBA.out HBA.out.size b3)
          clear b3
          have d5 : decide ((-1 : Int) < 0) = true := by decide
          go_wp2_with fail
          go_quiet (fail)
          go_wp2_with fail
          go_ret
          refine ⟨?_, below_drewN (below_then HB.out HB.out.size HB3.out) _⟩
          have hf : alikeA l m = false := by rw [hal.out, all_cut (j := j + 1) (by rw [HN.out]; exact HX.out)]; rfl
          exact congrArg (fun b => Ending.returned (.bool b)) hf.symm
        · obtain ⟨k, z, hk, hz, hzn, hzf⟩ := findA_some hq
          rw [hk] at hh
          have HH := Lib.hid hh
          have hklt : k < y.length := (List.getElem?_eq_some_iff.1 hz).1
          have HZ := Lib.hid hz
          have HX := Lib.hid (alikeX_some (b := y) hzf)
          have d5 : decide ((k : Int) < 0) = false := decide_eq_false (by omega)
          have d6 : (0 : Int) ≤ (k : Int) := by omega
          have d7 : (k : Int) < (y.length : Int) := by omega
          clear hh hq hk hz hzn hzf
          cases hv : (z.val.toList == u.val.toList)
          all_goals
            have HV := Lib.hid hv
            go_wp2_with fail
            refine HH.out.mono ?_
            rintro e w3 ⟨rfl, b3⟩
            have HB3 := Lib.hid (below_then HBA.out HBA.out.size b3)
            obtain ⟨x0, x1⟩ := var_at (HX0.out.keep b3)
            obtain ⟨a4, rfl, m1, m2⟩ := rdA_at (H4.out.keep HB3.out) HZ.out
            clear b3
            go_wp2_with fail
            go_quiet (fail)
            go_wp2_with fail
          · go_ret
            refine ⟨?_, below_drewN (below_then HB.out HB.out.size HB3.out) _⟩
            have hf : alikeA l m = false := by rw [hal.out, all_cut (j := j + 1) (by rw [HN.out, HX.out]; exact HV.out)]; rfl
            exact congrArg (fun b => Ending.returned (.bool b)) hf.symm
          · exact ⟨⟨j + 1, by omega, by go_num, below_drewN HB3.out _, by rw [HN.out, HX.out]; exact HV.out⟩, by simp [intOf]; omega⟩
      · have d0 : decide ((j : Int) < (x.length : Int)) = false := decide_eq_false (by omega)
        have ht := HT.out
        rw [List.take_of_length_le (by omega)] at ht
        have HE := Lib.hid ht
        clear ht
        go_wp2_with fail
        go_ret
        refine ⟨?_, below_then HB.out HB.out.size HBr.out⟩
        have hf : alikeA l m = true := by rw [hal.out, HE.out, HXY.out]; simp
        exact congrArg (fun b => Ending.returned (.bool b)) hf.symm
  · have d9 : ((x.length : Int) != (y.length : Int)) = true := by simp; omega
    have hf : Hid (alikeA l m = false) := by show _ = _; rw [hal.out, decide_eq_false hxy, Bool.and_false]
    clear hxy
    go_wp2_with fail
    go_ret
    exact ⟨congrArg (fun b => Ending.returned (.bool b)) hf.out.symm, HB.out⟩
end Go.Proofs.Ytoehpladbdefkaa
