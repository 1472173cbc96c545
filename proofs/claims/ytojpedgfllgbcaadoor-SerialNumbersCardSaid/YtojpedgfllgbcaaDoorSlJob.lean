/- slices.Insert, Delete and Clone at job. -/
import Derived.Test.YtojpedgfllgbcaaDoorProg
import Derived.Test.YtojpedgfllgbcaaDoorBase
import Derived.WalkKit
import Derived.KernelRfl
import Derived.WalkLawsBesides
import Derived.WalkSpells
import Derived.Lib.SliceRun
namespace Go.Proofs.YtojpedgfllgbcaaDoor
open Go.RowKit

theorem info_job : (Tryd.prog.info? 92).map (fun i => (i.zero, i.size, i.bytes)) = some (some (.agg #[.pointer none, .bool false, .string ⟨#[]⟩] : Value), 3, 32) := by kernel_rfl
theorem zero_job (w : World) : (zeroValue 92).run Tryd.prog w = .ok (.agg #[.pointer none, .bool false, .string ⟨#[]⟩]) w := by kernel_rfl
theorem size_job : (Tryd.prog.info? 92).map (·.size) = some 3 := by kernel_rfl
theorem sizeOf_job (w : World) : (Go.sizeOf 92).run Tryd.prog w = .ok 3 w := by kernel_rfl

set_option maxHeartbeats 1000000 in
set_option maxRecDepth 100000 in
/-- slices.Delete of one element. -/
theorem delete_job (base m i : Nat) (v : Value) (xs : List Value) (w : World) (hown : w.ownsRow base 92 3 v (m + 1) xs) (h1 : ∀ u ∈ xs, u.oneCell' = true) (hi : i ≤ m) :
    Calls Tryd.prog 100 #[v, .int .i64 (i : Int), .int .i64 ((i : Int) + 1)] w fun e w' => ∃ v', e = .returned v' ∧
      w'.ownsRow base 92 3 v' m (xs.take (i * 3) ++ xs.drop ((i + 1) * 3)) ∧ w.grownBy w' v.ownBlock ∧ v'.ownBlock = v.ownBlock := by
  have hl := hown.1
  obtain ⟨g, cap, rest, rfl, hg, hgb, hnc, hcm, hrl⟩ := own_parts hown (by omega)
  clear hown
  have hA : (xs.take (i * 3)).length = i * 3 := by rw [List.length_take]; omega
  have hD : (xs.drop ((i + 1) * 3)).length = (m - i) * 3 := by rw [List.length_drop]; omega
  have hap : ∀ ad, (0 < (xs.drop ((i + 1) * 3)).length → ad = (⟨g, (i + 1) * 3, none⟩ : Addr)) → ∀ sc, (Builtin.append_ #[112, 112] 112 #[.slice (some ⟨g, 0, none⟩) i cap, .slice (some ad) (m - i) sc]).run Tryd.prog w.drew = _ := fun ad had sc =>
    run_append_room_k (P := Tryd.prog) w.drew 112 112 92 3 g i cap (some ad) (m - i) sc (xs ++ rest).toArray 92 (xs.drop ((i + 1) * 3)) Tryd.underlying112 size_job hgb hD (by omega)
      (fun h0 => ⟨ad, rfl, fun j v hj => by
        rw [had h0]
        have ha : (⟨g, (i + 1) * 3, none⟩ : Addr).add j = ⟨g, (i + 1) * 3 + j, none⟩ := by unfold Addr.add; split <;> simp_all
        rw [ha, World.cell?_drew, hgb.cell]
        rw [List.getElem?_drop] at hj
        have hlt : (i + 1) * 3 + j < xs.length := (List.getElem?_eq_some_iff.1 hj).1
        simp only [List.getElem?_toArray, List.getElem?_append_left hlt]
        exact hj⟩) (fun h => by cases h) (by rw [hD]; simp only [List.size_toArray, List.length_append]; omega) (fun v hv => h1 v (List.mem_of_mem_drop hv))
  have hT : (xs ++ rest).take (i * 3) = xs.take (i * 3) := by rw [List.take_append_of_le_length (by omega)]
  have hRl : ((xs ++ rest).drop (i * 3 + (xs.drop ((i + 1) * 3)).length)).length = (cap - m) * 3 := by rw [List.length_drop, List.length_append, hD]; omega
  simp only [hT, show i + (m - i) = m by omega] at hap
  generalize hw2 : w.drew.setRow g (xs.take (i * 3) ++ xs.drop ((i + 1) * 3) ++ (xs ++ rest).drop (i * 3 + (xs.drop ((i + 1) * 3)).length)).toArray = w2 at hap
  generalize (xs ++ rest).drop (i * 3 + (xs.drop ((i + 1) * 3)).length) = R at hw2 hRl
  have hb2 : Blk w2 g 92 ((xs.take (i * 3) ++ xs.drop ((i + 1) * 3)) ++ R).toArray (0, 0) := by rw [← hw2]; exact Blk.setRow (w := w.drew) hgb _
  have hN : (xs.take (i * 3) ++ xs.drop ((i + 1) * 3)).length = m * 3 := by rw [List.length_append, hA, hD]; omega
  have hbw2 : w.grownBy w2 (some g) := by rw [← hw2]; exact World.grownBy.trans (show w.grownBy w.drew (some g) from ⟨rfl, rfl, rfl, Nat.le_refl _, fun _ _ _ => rfl⟩) (grownBy_setRow w.drew g _)
  obtain ⟨zs, hzl, hz1', hclr⟩ := run_clear_k (P := Tryd.prog) w2 112 0 92 3 g (m * 3) 1 (cap - m) (.agg #[.pointer none, .bool false, .string ⟨#[]⟩]) _ 92 Tryd.underlying112 zero_job rfl (by decide) hb2 (by decide) (by simp only [List.size_toArray]; rw [List.length_append, hN, hRl]; omega)
  have hclr' : ∀ ty, (Builtin.clear_ #[112] ty #[.slice (some ⟨g, m * 3, none⟩) 1 (cap - m)]).run Tryd.prog w2 = _ := fun ty => hclr
  have e3 : (((xs.take (i * 3) ++ xs.drop ((i + 1) * 3)) ++ R).toArray.toList.take (m * 3)) = (xs.take (i * 3) ++ xs.drop ((i + 1) * 3)) := take_left _ _ _ hN
  rw [e3] at hclr'
  generalize hw3 : w2.setRow g _ = w3 at hclr'
  have hb3 : Blk w3 g 92 ((xs.take (i * 3) ++ xs.drop ((i + 1) * 3)) ++ (zs ++ (((xs.take (i * 3) ++ xs.drop ((i + 1) * 3)) ++ R).toArray.toList.drop (m * 3 + zs.length)))).toArray (0, 0) := by
    rw [← List.append_assoc, ← hw3]; exact Blk.setRow hb2 _
  have hown : w3.ownsRow base 92 3 (.slice (some ⟨g, 0, none⟩) m cap) m (xs.take (i * 3) ++ xs.drop ((i + 1) * 3)) :=
    own_of_blk hg hb3 hN (by omega) hcm (by rw [List.length_append, List.length_drop, hzl]; rw [List.length_append, hN, hRl]; omega)
  have hbw3 : w.grownBy w3 (some g) := by rw [← hw3]; exact World.grownBy.trans hbw2 (grownBy_setRow w2 g _)
  have d1 : ((i : Int) == (i : Int) + 1) = false := by rw [beq_eq_false_iff_ne]; omega
  have hD0 : cap = i + 1 → ¬ 0 < (xs.drop ((i + 1) * 3)).length := by
    intro h
    have h0 : m - i = 0 := by omega
    rw [hD, h0]
    simp
  (try simp only [Nat.mul_one] at hap hclr' hD0)
  simp only [maxLen] at hcm
  have HA := Lib.hid hap
  have HC := Lib.hid hclr'
  have HO := Lib.hid hown
  have HBW := Lib.hid hbw3
  have HD0 := Lib.hid hD0
  clear hap hclr hclr' hown hb2 hb3 hw2 hw3 hN hRl hD hA hl h1 hgb e3 hbw2 hbw3 hz1' hzl hrl hT hD0
  have hcm0 : ¬ cap = m := by omega
  have hcm1 : ¬ m + 1 = i := by omega
  have hcm2 : ¬ cap = i := by omega
  have s1 : 0 ≤ (i : Int) + 1 := by omega
  have s2 : ((i : Int) + 1).toNat = i + 1 := by omega
  have s3 : (i : Int) ≤ (cap : Int) := by omega
  have s4 : i ≤ cap := by omega
  have s5 : (i : Int) + 1 ≤ (m : Int) + 1 := by omega
  have s6 : i ≤ m + 1 := by omega
  have s7 : m ≤ cap := by omega
  by_cases hci : cap = i + 1
  · obtain rfl : m = i := by omega
    subst hci
    have s8 : (m : Int) ≤ (m : Int) + 1 := by omega
    have HA1 := HA.out ⟨g, 0, none⟩ (fun h => absurd h (HD0.out rfl))
    simp only [Nat.sub_self] at HA1
    have HA2 := Lib.hid HA1
    clear HA1 HA HD0 hcm0 hcm1 hcm2
    go_enter Tryd.func100, Tryd.ntmps100
    go_wp2_with fail
    go_still_tail 6, (by kernel_rfl)
    refine Lib.wpList_append_run _ rfl (.tmp 22) (.tmp 25) _ _ rfl _ _ rfl rfl _ _ (HA2.out _) ?_
    have HCC := HC.out
    simp only [Nat.add_sub_cancel_left] at HCC
    go_wp2_with fail
    go_ret
    exact ⟨_, rfl, HO.out, HBW.out, rfl⟩
  · have HA1 := HA.out _ (fun _ => rfl)
    have HA2 := Lib.hid HA1
    clear HA1 HA HD0
    go_enter Tryd.func100, Tryd.ntmps100
    go_wp2_with fail
    go_still_tail 6, (by kernel_rfl)
    refine Lib.wpList_append_run _ rfl (.tmp 22) (.tmp 25) _ _ rfl _ _ rfl rfl _ _ (HA2.out _) ?_
    have HCC := HC.out
    go_wp2_with fail
    go_ret
    exact ⟨_, rfl, HO.out, HBW.out, rfl⟩

end Go.Proofs.YtojpedgfllgbcaaDoor
