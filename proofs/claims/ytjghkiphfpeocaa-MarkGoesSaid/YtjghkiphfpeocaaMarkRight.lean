/- token.Right at a comment. -/
import Derived.Test.YtjghkiphfpeocaaMarkSame
namespace Go.Proofs.Ytjghkiphfpeocaa
open Go.RowKit

set_option maxHeartbeats 1000000 in
theorem plain_text (kd : Int) (tx : ByteArray) (w : World) :
    Calls Try.prog 39 #[.agg #[.int .i64 kd, .string ⟨#[]⟩, .slice none 0 0, .bool false, .string tx], .bool false, .bool false, .bool true] w fun e w' => e = .returned (.bool true) ∧ Below w.heap.size w w' := by
  have HB := Lib.hid ((Below.refl w.heap.size w).alloc (Nat.le_refl _) (.cells #[.int .i64 kd, .string ⟨#[]⟩, .slice none 0 0, .bool false, .string tx] 34))
  go_enter Try.func39, Try.ntmps39
  go_wp2_with fail
  go_ret
  exact ⟨rfl, HB.out⟩
set_option maxHeartbeats 1000000 in
theorem right_comment (tx : ByteArray) (w : World) :
    Calls Try.prog 23 #[.agg #[.int .i64 5, .string ⟨#[]⟩, .slice none 0 0, .bool false, .string tx]] w fun e w' => e = .returned (.bool true) ∧ Below w.heap.size w w' := by
  have HB := Lib.hid ((Below.refl w.heap.size w).alloc (Nat.le_refl _) (.cells #[.int .i64 5, .string ⟨#[]⟩, .slice none 0 0, .bool false, .string tx] 34))
  have HP := Lib.hid (fun w => plain_text 5 tx w)
  go_enter Try.func23, Try.ntmps23
  go_wp2_with fail
  refine (HP.out _).mono ?_
  rintro e w1 ⟨rfl, b1⟩
  have HB1 := Lib.hid (below_then HB.out HB.out.size b1)
  clear b1
  go_wp2_with fail
  go_ret
  exact ⟨rfl, HB1.out⟩
end Go.Proofs.Ytjghkiphfpeocaa
