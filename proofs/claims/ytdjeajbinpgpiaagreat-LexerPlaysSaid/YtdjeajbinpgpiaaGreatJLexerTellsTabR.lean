/- arbourref5.table: the names. -/
import Derived.Test.YtdjeajbinpgpiaaGreatJLexerTells8
namespace Go.Proofs.YtdjeajbinpgpiaaGreat
open Go.RowKit
set_option maxHeartbeats 4000000 in
set_option maxRecDepth 100000 in
theorem rtable_any (w : World) :
    Calls Tryz.prog 103 #[] w fun e w' => e = .returned (.slice (some ⟨w.heap.size, 0, none⟩) 102 102) ∧ w.alloc (.cells tabCells 9) = w' := by
  go_enter Tryz.func103, Tryz.ntmps103
  go_wp2_with (refine wpList_buildAt rfl _ 9 _ _ rfl tabCells 1 (.string ⟨#[]⟩) Tryz.underlying22 (by kernel_rfl) (by decide) (by decide) (by kernel_rfl) ?_)
  go_ret
  exact ⟨rfl, rfl⟩
end Go.Proofs.YtdjeajbinpgpiaaGreat
