/- refs.table: the names. -/
import Derived.Test.YtdjeajbinpgpiaaTabR0
namespace Go.Proofs.Ytdjeajbinpgpiaa
open Go.RowKit
theorem tabT_len : tabT.length = 51 := by decide
set_option maxHeartbeats 4000000 in
set_option maxRecDepth 100000 in
theorem table_any (w : World) :
    Calls Try.prog 83 #[] w fun e w' => e = .returned (.slice (some ⟨w.heap.size, 0, none⟩) 51 51) ∧ w.alloc (.cells tabCells 100) = w' := by
  go_enter Try.func83, Try.ntmps83
  go_wp2
  go_ret
  exact ⟨rfl, congrArg (fun c => w.alloc (.cells c 100)) (by kernel_rfl)⟩
end Go.Proofs.Ytdjeajbinpgpiaa
