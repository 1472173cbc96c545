/- ScanTells, walked. -/
import Derived.Test.YtafinbcmelpieaaScanL
namespace Go.Proofs.Ytafinbcmelpieaa
open Go.RowKit

set_option maxHeartbeats 400000 in
theorem walk_ScanTells (a0 : ByteArray) (a1 : Int) (a2 : ByteArray) (a3 a4 : Int) (w0 : a0.size ≤ maxLen) (w2 : a2.size ≤ maxLen) (w : World) (hL : Lax w) :
    Calls Try.prog 7 #[.string a0, .int .i64 a1, .string a2, .int .i64 a3, .int .i64 a4] w fun e w' => e = .returned (.bool true) ∧ Below w.heap.size w w' := by
  unfold maxLen at w0 w2
  have hs := headB_le a0 80
  have ht := headB_le a2 20
  go_enter Try.func7, Try.ntmps7
  go_wp2_with fail
  refine (head_any _ _ _ (by omega) (by omega)).mono ?_
  rintro e w1 ⟨rfl, rfl⟩
  go_wp2_with fail
  refine (head_any _ _ _ (by omega) (by omega)).mono ?_
  rintro e w1 ⟨rfl, rfl⟩
  rw [show (20 : Int).toNat = 20 from rfl]
  generalize headB a0 80 = s at *
  generalize headB a2 20 = sub at *
  go_wp2_with fail
  refine (bwithin_any _ _ _ _ (by omega) (by omega) (by omega)).mono ?_
  rintro e w1 ⟨rfl, rfl⟩
  obtain ⟨i, hi, hi1, hi2⟩ := nat_of (Int.le_refl 0) (withinI_bd a3 0 s.size (by omega))
  rw [hi]
  clear hi
  go_wp2_with fail
  refine (bwithin_any _ _ _ _ (by omega) (by omega) (by omega)).mono ?_
  rintro e w1 ⟨rfl, rfl⟩
  obtain ⟨j, hj, hj1, hj2⟩ := nat_of hi1 (withinI_bd a4 i s.size (by omega))
  rw [hj]
  clear hj
  go_wp2_with fail
  have hx := size_extract_le s i j
  refine wp_region_after (by kernel_rfl) (by kernel_rfl) ?_
  repeat (any_goals (quiet_step ((first
    | (go_at_call 22; exact call_after (lsame_any _ _ _ _ (hL.below (After.below _)) (by omega) (by omega)))
    | (go_at_call 14; exact call_same (bwithin_any _ _ _ _ (by omega) (by omega) (by omega)))
    | (go_at_call 17; exact call_after (known_any _ (hL.below (After.below _))))))))
  refine wpQuiet_nil ?_
  rintro w' ⟨n, rfl⟩
  go_wp2_with fail
  go_ret
  exact ⟨rfl, n.below⟩

end Go.Proofs.Ytafinbcmelpieaa
