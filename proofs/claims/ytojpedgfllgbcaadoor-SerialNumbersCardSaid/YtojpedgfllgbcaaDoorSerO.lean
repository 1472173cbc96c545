/- arbourlaw23's known: chapter 23's runs. -/
import Derived.Test.YtojpedgfllgbcaaDoorSerK
namespace Go.Proofs.YtojpedgfllgbcaaDoor
open Go.RowKit

def rootL : Lab := ⟨1, 0, ⟨#[]⟩, [], ⟨#[]⟩⟩
def kpL : Lab := ⟨3, 1, ⟨#[112]⟩, [], ⟨#[]⟩⟩
def kbrL : Lab := ⟨3, 1, ⟨#[98, 114]⟩, [], ⟨#[]⟩⟩
def ktL : Lab := ⟨4, 0, ⟨#[]⟩, [], ⟨#[97, 32, 60, 32, 98]⟩⟩
def knownK : Fo := .cons kpL (.cons ktL .nil .nil) (.cons kbrL .nil .nil)
theorem known_out : S (innerF false rootL knownK) = ⟨#[60, 112, 62, 97, 32, 38, 108, 116, 59, 32, 98, 60, 47, 112, 62, 60, 98, 114, 62]⟩ := by decide +kernel

set_option maxHeartbeats 2000000 in
set_option maxRecDepth 100000 in
theorem known23_any (w : World) (hT : Tabs w) : Calls Tryd.prog 24 #[] w fun e w' => e = .returned (.bool true) ∧ Below w.heap.size w w' := by
  have hb1 : Below w.heap.size w (w.alloc (.cells #[.int .i64 4, .int .i64 0, .string ⟨#[]⟩, .slice none 0 0, .string ⟨#[97, 32, 60, 32, 98]⟩, .slice none 0 0] 25)) := (Below.refl _ _).alloc (Nat.le_refl _) _
  obtain ⟨w1, hw1⟩ : ∃ w1, w.alloc (.cells #[.int .i64 4, .int .i64 0, .string ⟨#[]⟩, .slice none 0 0, .string ⟨#[97, 32, 60, 32, 98]⟩, .slice none 0 0] 25) = w1 := ⟨_, rfl⟩
  have hB1 : Blk w1 w.heap.size 25 (cellsP ktL 0 ⟨none, 0, none, 0⟩).toArray (0, 0) := hw1 ▸ Blk.new w _ _ _
  have hz1 : w1.heap.size = w.heap.size + 1 := by rw [← hw1]; simp
  rw [hw1] at hb1
  have hb2 : Below w1.heap.size w1 (w1.alloc (.cells #[.int .i64 3, .int .i64 1, .string ⟨#[112]⟩, .slice none 0 0, .string ⟨#[]⟩, .slice (some ⟨w.heap.size, 0, none⟩) 1 1, .int .i64 3, .int .i64 1, .string ⟨#[98, 114]⟩, .slice none 0 0, .string ⟨#[]⟩, .slice none 0 0] 25)) := (Below.refl _ _).alloc (Nat.le_refl _) _
  obtain ⟨w2, hw2⟩ : ∃ w2, w1.alloc (.cells #[.int .i64 3, .int .i64 1, .string ⟨#[112]⟩, .slice none 0 0, .string ⟨#[]⟩, .slice (some ⟨w.heap.size, 0, none⟩) 1 1, .int .i64 3, .int .i64 1, .string ⟨#[98, 114]⟩, .slice none 0 0, .string ⟨#[]⟩, .slice none 0 0] 25) = w2 := ⟨_, rfl⟩
  have hB2 : Blk w2 (w.heap.size + 1) 25 (cellsP kpL 1 ⟨none, 0, some ⟨w.heap.size, 0, none⟩, 1⟩ ++ (cellsP kbrL 0 ⟨none, 0, none, 0⟩ ++ [])).toArray (0, 0) := by
    rw [← hz1]; exact hw2 ▸ Blk.new w1 _ _ _
  have hz2 : w2.heap.size = w.heap.size + 2 := by rw [← hw2]; simp [hz1]
  rw [hw2] at hb2
  have hT1 := hB1.keep hb2
  have hRF1 : RdF w2 (some ⟨w.heap.size, 0, none⟩) 1 (.cons ktL .nil .nil) := by
    refine rdF_block (xs := cellsP ktL 0 ⟨none, 0, none, 0⟩ ++ []) (by simpa using hT1) (Cells.cons_iff.2 ⟨⟨none, 0, none, 0⟩, [], rfl, ⟨RdA.nil' _, RdF.nil _ _ _ (Nat.zero_le _)⟩, rfl⟩) (Nat.le_refl 1) (show (1 : Nat) ≤ maxLen by decide)
  have hRF2 : RdF w2 (some ⟨w.heap.size + 1, 0, none⟩) 2 knownK := by
    refine rdF_block hB2 (Cells.cons_iff.2 ⟨⟨none, 0, some ⟨w.heap.size, 0, none⟩, 1⟩, _, rfl, ⟨RdA.nil' _, hRF1⟩, Cells.cons_iff.2 ⟨⟨none, 0, none, 0⟩, [], rfl, ⟨RdA.nil' _, RdF.nil _ _ _ (Nat.zero_le _)⟩, rfl⟩⟩) (Nat.le_refl 2) (show (2 : Nat) ≤ maxLen by decide)
  have hb3 : Below w2.heap.size w2 (w2.alloc (.cells #[.int .i64 1, .int .i64 0, .string ⟨#[]⟩, .slice none 0 0, .string ⟨#[]⟩, .slice (some ⟨w.heap.size + 1, 0, none⟩) 2 2] 25)) := (Below.refl _ _).alloc (Nat.le_refl _) _
  have hb12 := below_both hb1 hb2
  have hb13 := below_both hb12 hb3
  have HX := Lib.hid (text_tree _ rootL knownK ⟨none, 0, some ⟨w.heap.size + 1, 0, none⟩, 2⟩ ⟨RdA.nil' _, hRF2.keep hb3⟩ (by decide) (hT.keep hb13))
  rw [known_out] at HX
  have HB := Lib.hid hb13
  subst hw2
  subst hw1
  have HX2 : Hid (Calls Tryd.prog 23 #[.agg #[.int .i64 1, .int .i64 0, .string ⟨#[]⟩, .slice none 0 0, .string ⟨#[]⟩, .slice (some ⟨w.heap.size + 1, 0, none⟩) 2 2]] _ _) := HX
  clear HX
  clear hb1 hb2 hb3 hb12 hb13 hB1 hB2 hT1 hRF1 hRF2 hz1 hz2 hT
  go_enter Tryd.func24, Tryd.ntmps24
  go_wp2_with (go_at_call 23; with_reducible refine HX2.out.mono ?_; rintro e w3 ⟨rfl, hb4⟩)
  go_ret
  exact ⟨rfl, below_both HB.out hb4⟩
end Go.Proofs.YtojpedgfllgbcaaDoor
