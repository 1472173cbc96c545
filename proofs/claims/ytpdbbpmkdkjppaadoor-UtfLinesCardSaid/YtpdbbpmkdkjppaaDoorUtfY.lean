/- unicode/utf8.DecodeRune: the library's contract, laid at this program. -/
import Derived.Test.YtpdbbpmkdkjppaaDoorShelf
import Derived.Shelf.Spec.DecodeRune
namespace Go.Proofs.YtpdbbpmkdkjppaaDoor
open Go.RowKit Go.Lib
def ren7 : Go.Shelf.Ren := ⟨fun | 32 => 32 | 49 => 40 | n => n, fun | 0 => 0 | 3 => 3 | 4 => 4 | 5 => 5 | 21 => 21 | 25 => 46 | 30 => 23 | 33 => 42 | 66 => 64 | 68 => 66 | 69 => 67 | n => n, fun | 2 => 0 | 3 => 1 | n => n⟩
theorem lays7 : Go.Proofs.Lays7.n32 Tryd.prog ren7 := {
  mixed := by kernel_rfl
  f32 := Tryd.func32.trans (congrArg some (by kernel_rfl))
  f49 := Tryd.func40.trans (congrArg some (by kernel_rfl))
  t0 := Tryd.underlying0
  a0 := Tryd.isAgg0
  z0 := Tryd.sizeOf0
  v0 := Tryd.zeroValue0
  i0 := by kernel_rfl
  t3 := Tryd.underlying3
  a3 := Tryd.isAgg3
  z3 := Tryd.sizeOf3
  v3 := Tryd.zeroValue3
  i3 := by kernel_rfl
  t4 := Tryd.underlying4
  a4 := Tryd.isAgg4
  z4 := Tryd.sizeOf4
  v4 := Tryd.zeroValue4
  i4 := by kernel_rfl
  t5 := Tryd.underlying5
  a5 := Tryd.isAgg5
  z5 := Tryd.sizeOf5
  v5 := Tryd.zeroValue5
  i5 := by kernel_rfl
  t21 := Tryd.underlying21
  a21 := Tryd.isAgg21
  z21 := Tryd.sizeOf21
  v21 := Tryd.zeroValue21
  i21 := by kernel_rfl
  t25 := Tryd.underlying46
  a25 := Tryd.isAgg46
  z25 := Tryd.sizeOf46
  v25 := Tryd.zeroValue46
  i25 := by kernel_rfl
  t30 := Tryd.underlying23
  a30 := Tryd.isAgg23
  z30 := Tryd.sizeOf23
  v30 := Tryd.zeroValue23
  i30 := by kernel_rfl
  t33 := Tryd.underlying42
  a33 := Tryd.isAgg42
  z33 := Tryd.sizeOf42
  v33 := Tryd.zeroValue42
  i33 := by kernel_rfl
  t66 := Tryd.underlying64
  a66 := Tryd.isAgg64
  z66 := Tryd.sizeOf64
  t68 := Tryd.underlying66
  a68 := Tryd.isAgg66
  z68 := Tryd.sizeOf66
  v68 := Tryd.zeroValue66
  i68 := by kernel_rfl
  t69 := Tryd.underlying67
  a69 := Tryd.isAgg67
  z69 := Tryd.sizeOf67
  v69 := Tryd.zeroValue67
  i69 := by kernel_rfl
  g2 := by kernel_rfl
  g3 := by kernel_rfl }
theorem decode_rune (s : ByteArray) (b off cap : Nat) (w : World) (hT : Lib.Utf8Tabs 0 1 w) (hp : ∀ j, j < s.size → w.cell? ⟨b, off + j, none⟩ = some (.int .u8 (s.get! j).toNat)) :
    Calls Tryd.prog 32 #[.slice (some ⟨b, off, none⟩) s.size cap] w fun e w' => e = .returned (.tuple #[.int .i32 (Lib.decodeGo s).1, .int .i64 (Lib.decodeGo s).2]) ∧ Below w.heap.size w w' :=
  Any7.utf8_DecodeRune lays7 s b off cap w hT hp
end Go.Proofs.YtpdbbpmkdkjppaaDoor
