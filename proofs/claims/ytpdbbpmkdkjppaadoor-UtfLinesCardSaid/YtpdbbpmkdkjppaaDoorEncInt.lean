/- Rows of integers, where there is no stack. No program in sight. -/
import Derived.Test.YtpdbbpmkdkjppaaDoorBase
namespace Go.Proofs.YtpdbbpmkdkjppaaDoor
open Go.RowKit
def enc_int : Int → List Value := fun x => [.int .i64 x]
theorem encOk_int : EncOk enc_int 1 := fun x => ⟨rfl, fun u hu => List.all_eq_true.1 (show (enc_int x).all (fun u => u.oneCell') = true from rfl) u hu⟩
end Go.Proofs.YtpdbbpmkdkjppaaDoor
