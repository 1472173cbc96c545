/- refs.table: the names. -/
import Derived.Test.YtpdbbpmkdkjppaaTabR
namespace Go.Proofs.Ytpdbbpmkdkjppaa
open Go.RowKit
theorem tabT_len : tabT.length = 51 := by decide
set_option maxHeartbeats 4000000 in
set_option maxRecDepth 100000 in
theorem table_any (w : World) :
    Calls Try.prog 42 #[] w fun e w' => e = .returned (.slice (some ⟨w.heap.size, 0, none⟩) 51 51) ∧ w.alloc (.cells tabCells 62) = w' := by
  go_enter Try.func42, Try.ntmps42
  go_wp2
  go_ret
  exact ⟨rfl, congrArg (fun c => w.alloc (.cells c 62)) (by kernel_rfl)⟩
end Go.Proofs.Ytpdbbpmkdkjppaa
