/- serial.Escape, and the reference's. -/
import Derived.Test.YtojpedgfllgbcaaDoorSerEL
import Derived.Test.YtojpedgfllgbcaaDoorUtfS
namespace Go.Proofs.YtojpedgfllgbcaaDoor
open Go.RowKit

/-- ReplaceAll of a text that is not too long. -/
theorem rep_any (s old new : ByteArray) (w : World) (hne : old ≠ new) (h1 : 1 ≤ old.size) (ho : old.size ≤ new.size) (hn : new.size ≤ 6) (hs : s.size ≤ 10000000) (hT : Tabs w) :
    Calls Tryd.prog 48 #[.string s, .string old, .string new] w fun e w' => e = .returned (.string (S (subA (B old) (B new) (B s)))) ∧ Below w.heap.size w w' := by
  have ho2 : (B old) ≠ [] := fun e => by have := size_B old; rw [e, List.length_nil] at this; omega
  have hc := count_le1 (B s) (B old) (by rw [← size_B]; exact h1)
  have hl := subA_len (B old) (B new) ho2 _ (B s) (Nat.le_refl _)
  rw [← size_B] at hc
  rw [← size_B, ← size_B] at hl
  have hm : (new.size + 1) * s.size ≤ 7 * s.size := Nat.mul_le_mul_right _ (by omega)
  have hk : Lib.count (B s) (B old) * (new.size - old.size) ≤ s.size * 6 := Nat.mul_le_mul hc (by omega)
  have hi : (s.size : Int) + (Lib.count (B s) (B old) : Int) * ((new.size : Int) - (old.size : Int)) = ((s.size + Lib.count (B s) (B old) * (new.size - old.size) : Nat) : Int) := by
    rw [Int.natCast_add, Int.natCast_mul, Int.natCast_sub ho]
  exact replaceAll_any s old new w hne h1 (by omega) (by omega) hs hT _ hi (by omega) (by omega)
theorem sub_size (s old new : ByteArray) (h1 : 1 ≤ old.size) : (S (subA (B old) (B new) (B s))).size ≤ (new.size + 1) * s.size := by
  have ho2 : (B old) ≠ [] := fun e => by have := size_B old; rw [e, List.length_nil] at this; omega
  have hl := subA_len (B old) (B new) ho2 _ (B s) (Nat.le_refl _)
  rw [size_S, size_B s, size_B new]
  exact hl
def ampS : ByteArray := ⟨#[38, 97, 109, 112, 59]⟩
def nbspS : ByteArray := ⟨#[38, 110, 98, 115, 112, 59]⟩
def quotS : ByteArray := ⟨#[38, 113, 117, 111, 116, 59]⟩
def ltS : ByteArray := ⟨#[38, 108, 116, 59]⟩
def gtS : ByteArray := ⟨#[38, 103, 116, 59]⟩

set_option maxHeartbeats 1000000 in
theorem escape_any (s : ByteArray) (attr : Bool) (w : World) (hs : s.size ≤ 40000) (hT : Tabs w) :
    Calls Tryd.prog 22 #[.string s, .bool attr] w fun e w' => e = .returned (.string (S (escT attr (B s)))) ∧ Below w.heap.size w w' := by
  have z1 := sub_size s ⟨#[38]⟩ ampS (by decide)
  rw [show ampS.size + 1 = 6 from rfl] at z1
  have z2 := sub_size (S (subA (B ⟨#[38]⟩) (B ampS) (B s))) ⟨#[194, 160]⟩ nbspS (by decide)
  rw [show nbspS.size + 1 = 7 from rfl] at z2
  have H1 := Lib.hid (rep_any s ⟨#[38]⟩ ampS w (by decide) (by decide) (by decide) (by decide) (by omega) hT)
  have H2 := Lib.hid (fun W (hb : Below w.heap.size w W) => rep_any (S (subA (B ⟨#[38]⟩) (B ampS) (B s))) ⟨#[194, 160]⟩ nbspS W (by decide) (by decide) (by decide) (by decide) (by omega) (hT.keep hb))
  have z3 := sub_size (S (subA (B ⟨#[194, 160]⟩) (B nbspS) (B (S (subA (B ⟨#[38]⟩) (B ampS) (B s)))))) ⟨#[60]⟩ ltS (by decide)
  rw [show ltS.size + 1 = 5 from rfl] at z3
  have hz2 : (S (subA (B ⟨#[194, 160]⟩) (B nbspS) (B (S (subA (B ⟨#[38]⟩) (B ampS) (B s)))))).size ≤ 1680000 := by omega
  cases attr
  · have H3 := Lib.hid (fun W (hb : Below w.heap.size w W) => rep_any (S (subA (B ⟨#[194, 160]⟩) (B nbspS) (B (S (subA (B ⟨#[38]⟩) (B ampS) (B s)))))) ⟨#[60]⟩ ltS W (by decide) (by decide) (by decide) (by decide) (by omega) (hT.keep hb))
    have H4 := Lib.hid (fun W (hb : Below w.heap.size w W) => rep_any (S (subA (B ⟨#[60]⟩) (B ltS) (B (S (subA (B ⟨#[194, 160]⟩) (B nbspS) (B (S (subA (B ⟨#[38]⟩) (B ampS) (B s))))))))) ⟨#[62]⟩ gtS W (by decide) (by decide) (by decide) (by decide) (by omega) (hT.keep hb))
    clear z1 z2 z3 hz2
    go_enter Tryd.func22, Tryd.ntmps22
    go_wp2_with fail
    refine H1.out.mono ?_
    rintro e w1 ⟨rfl, hb1⟩
    go_wp2_with fail
    refine (H2.out w1 hb1).mono ?_
    rintro e w2 ⟨rfl, hb2⟩
    have hb12 := below_both hb1 hb2
    go_wp2_with fail
    refine (H3.out w2 hb12).mono ?_
    rintro e w3 ⟨rfl, hb3⟩
    have hb13 := below_both hb12 hb3
    go_wp2_with fail
    refine (H4.out w3 hb13).mono ?_
    rintro e w4 ⟨rfl, hb4⟩
    go_wp2_with fail
    go_ret
    exact ⟨ret_strU (congrArg S (esc_false (B s))), below_both hb13 hb4⟩
  · have H3 := Lib.hid (fun W (hb : Below w.heap.size w W) => rep_any (S (subA (B ⟨#[194, 160]⟩) (B nbspS) (B (S (subA (B ⟨#[38]⟩) (B ampS) (B s)))))) ⟨#[34]⟩ quotS W (by decide) (by decide) (by decide) (by decide) (by omega) (hT.keep hb))
    clear z1 z2 z3 hz2
    go_enter Tryd.func22, Tryd.ntmps22
    go_wp2_with fail
    refine H1.out.mono ?_
    rintro e w1 ⟨rfl, hb1⟩
    go_wp2_with fail
    refine (H2.out w1 hb1).mono ?_
    rintro e w2 ⟨rfl, hb2⟩
    have hb12 := below_both hb1 hb2
    go_wp2_with fail
    refine (H3.out w2 hb12).mono ?_
    rintro e w3 ⟨rfl, hb3⟩
    go_wp2_with fail
    go_ret
    exact ⟨ret_strU (congrArg S (esc_true (B s))), below_both hb12 hb3⟩
end Go.Proofs.YtojpedgfllgbcaaDoor
