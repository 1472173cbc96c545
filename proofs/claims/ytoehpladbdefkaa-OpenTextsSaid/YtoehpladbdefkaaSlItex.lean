/- slices.Insert, Delete and Clone at itex. -/
import Derived.Test.YtoehpladbdefkaaProg
import Derived.Test.YtoehpladbdefkaaRow
import Derived.WalkKit
import Derived.KernelRfl
import Derived.WalkLawsBesides
import Derived.WalkSpells
import Derived.Lib.SliceRun
namespace Go.Proofs.Ytoehpladbdefkaa
open Go.RowKit

theorem info_itex : (Try.prog.info? 56).map (fun i => (i.zero, i.size, i.bytes)) = some (some (.agg #[.string ⟨#[]⟩, .int .i64 0, .string ⟨#[]⟩, .slice none 0 0] : Value), 4, 64) := by kernel_rfl
theorem zero_itex (w : World) : (zeroValue 56).run Try.prog w = .ok (.agg #[.string ⟨#[]⟩, .int .i64 0, .string ⟨#[]⟩, .slice none 0 0]) w := by kernel_rfl
theorem size_itex : (Try.prog.info? 56).map (·.size) = some 4 := by kernel_rfl
theorem sizeOf_itex (w : World) : (Go.sizeOf 56).run Try.prog w = .ok 4 w := by kernel_rfl

end Go.Proofs.Ytoehpladbdefkaa
