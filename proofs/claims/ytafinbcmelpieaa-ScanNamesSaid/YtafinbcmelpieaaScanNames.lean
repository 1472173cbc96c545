/- ScanNames, walked. -/
import Derived.Test.YtafinbcmelpieaaScanL
namespace Go.Proofs.Ytafinbcmelpieaa
open Go.RowKit

theorem name_split (c : UInt8) : hasB [9, 10, 12, 13, 32, 47, 62] c = (spaceB c || c == 47 || c == 62) := by
  rw [Bool.eq_iff_iff, hasB_iff]
  unfold spaceB
  simp [or_assoc]
theorem name_in (s : ByteArray) (k j : Nat) (hk : k ≤ s.size) (h1 : k ≤ j) (h2 : j < nameL (B s) k) (h : j < s.size) : (((s[j].toNat : Int) == 47) = false) ∧ (((s[j].toNat : Int) == 62) = false) ∧ skipL (B s) j = j := by
  have hl : k ≤ (B s).length := by rw [← size_B]; exact hk
  have h' : j < (B s).length := by rw [← size_B]; exact h
  have hm := stopL_mem _ (B s) k j hl h1 h2 h'
  rw [B_get s j h h', name_split] at hm
  simp only [Bool.not_eq_true', Bool.or_eq_false_iff] at hm
  obtain ⟨⟨hm1, hm2⟩, hm3⟩ := hm
  refine ⟨?_, ?_, stopB_stop _ s j h hm1⟩
  · rw [beq_eq_false_iff_ne] at hm2 ⊢
    intro e
    exact hm2 (UInt8.toNat_inj.1 (by show s[j].toNat = 47; omega))
  · rw [beq_eq_false_iff_ne] at hm3 ⊢
    intro e
    exact hm3 (UInt8.toNat_inj.1 (by show s[j].toNat = 62; omega))
theorem name_out (s : ByteArray) (k : Nat) (hk : k ≤ s.size) (n : Nat) (hn : n = nameL (B s) k) (h : n < s.size) : ((s[n].toNat : Int) = 47) ∨ ((s[n].toNat : Int) = 62) ∨ n < skipL (B s) n := by
  have hl : k ≤ (B s).length := by rw [← size_B]; exact hk
  have h' : n < (B s).length := by rw [← size_B]; exact h
  subst hn
  have hm := stopL_at _ (B s) k hl h'
  have hg := B_get s _ h h'
  unfold nameL untilL at hg
  rw [hg, name_split] at hm
  simp only [Bool.not_eq_false', Bool.or_eq_true, beq_iff_eq] at hm
  rcases hm with (hm | hm) | hm
  · refine .inr (.inr ?_)
    have := stopB_step spaceB s (nameL (B s) k) h hm
    have h2 := stopL_ge spaceB (B s) (nameL (B s) k + 1)
    unfold skipL
    omega
  · left
    show ((s[nameL (B s) k].toNat : Nat) : Int) = 47
    unfold nameL untilL
    rw [hm]
    rfl
  · right; left
    show ((s[nameL (B s) k].toNat : Nat) : Int) = 62
    unfold nameL untilL
    rw [hm]
    rfl

set_option maxHeartbeats 800000 in
theorem walk_ScanNames (a0 : ByteArray) (a1 : Int) (w0 : a0.size ≤ maxLen) (w : World) (hL : Lax w) :
    Calls Try.prog 4 #[.string a0, .int .i64 a1] w fun e w' => e = .returned (.bool true) ∧ Below w.heap.size w w' := by
  unfold maxLen at w0
  have hs := headB_le a0 80
  go_enter Try.func4, Try.ntmps4
  go_wp2_with fail
  refine (head_any _ _ _ (by omega) (by omega)).mono ?_
  rintro e w1 ⟨rfl, rfl⟩
  rw [show (80 : Int).toNat = 80 from rfl]
  generalize headB a0 80 = s at *
  go_wp2_with fail
  refine (bwithin_any _ _ _ _ (by omega) (by omega) (by omega)).mono ?_
  rintro e w1 ⟨rfl, rfl⟩
  obtain ⟨k, hk, hk1, hk2⟩ := nat_of (Int.le_refl 0) (withinI_bd a1 0 s.size (by omega))
  rw [hk]
  clear hk
  have hkl : k ≤ (B s).length := by rw [← size_B]; omega
  go_wp2_with fail
  refine (name_at _ _ _ (by omega) (by omega)).mono ?_
  rintro e w1 ⟨rfl, rfl⟩
  have hn1 : k ≤ nameL (B s) k := stopL_ge _ _ _
  have hn2 : nameL (B s) k ≤ s.size := by rw [size_B]; exact stopL_le _ _ _ hkl
  have hn3 : nameL (B s) (nameL (B s) k) = nameL (B s) k := stopL_idem _ _ _ hkl
  have hin := fun j => name_in s k j (by omega)
  have hout := name_out s k (by omega)
  generalize nameL (B s) k = n at *
  have HI := Lib.hid hin
  have HO := Lib.hid hout
  have H3 := Lib.hid hn3
  clear hin hout hn3
  have d1 : decide (n < k) = false := decide_eq_false (by omega)
  have d2 : decide (s.size < n) = false := decide_eq_false (by omega)
  go_wp2_with fail
  go_loop [6] (fun i => ∃ j : Nat, k ≤ j ∧ j ≤ n ∧ i = .int .i64 j) (fun i => n - (intOf i).toNat)
  case atStart => exact ⟨k, Nat.le_refl _, hn1, rfl⟩
  case round =>
    obtain ⟨j, hj1, hj2, rfl⟩ := hrel
    by_cases hjn : j < n
    · obtain ⟨h1, h2, h3⟩ := HI.out j hj1 hjn (by omega)
      have H4 := Lib.hid h3
      clear h3
      have h5 : (((j : Int) != (j : Int))) = false := by simp
      go_wp2_with (first
        | (go_at_call 19; refine (skip_at _ _ _ (by omega) (by omega)).mono ?_; rintro e w1 ⟨rfl, rfl⟩; rw [H4.out]))
      refine ⟨⟨j + 1, by omega, by omega, by go_num⟩, by simp [intOf]; omega⟩
    · have hjn' : j = n := by omega
      by_cases hlt : n < s.size
      · have d3 : ((n : Int) == (s.size : Int)) = false := by rw [beq_eq_false_iff_ne]; omega
        have ho := HO.out n rfl hlt
        have hg : ¬ (s[n].toNat : Int) = 47 → ¬ (s[n].toNat : Int) = 62 → n < skipL (B s) n := fun h1 h2 => (ho.resolve_left h1).resolve_left h2
        have HGG := Lib.hid hg
        clear ho hg
        go_wp2_with (first
          | (go_at_call 19; refine (skip_at _ _ _ (by omega) (by omega)).mono ?_; rintro e w1 ⟨rfl, rfl⟩; have hgg := HGG.out (by assumption) (by assumption); generalize skipL (B s) n = g at *)
          | (go_at_call 18; refine (name_at _ _ _ (by omega) (by omega)).mono ?_; rintro e w1 ⟨rfl, rfl⟩; rw [H3.out])
          | (go_at_call 17; refine (known_any _ hL).mono ?_; rintro e w1 ⟨rfl, hb⟩))
        all_goals
          go_ret
          exact ⟨rfl, hb⟩
      · have d3 : ((n : Int) == (s.size : Int)) = true := by rw [beq_iff_eq]; omega
        go_wp2_with fail
        refine (name_at _ _ _ (by omega) (by omega)).mono ?_
        rintro e w1 ⟨rfl, rfl⟩
        rw [H3.out]
        go_wp2_with fail
        refine (known_any _ hL).mono ?_
        rintro e w1 ⟨rfl, hb⟩
        go_wp2_with fail
        go_ret
        exact ⟨rfl, hb⟩
end Go.Proofs.Ytafinbcmelpieaa
