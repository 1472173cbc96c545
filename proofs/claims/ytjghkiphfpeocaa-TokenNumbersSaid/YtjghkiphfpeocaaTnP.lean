/- token.Right at any token whose name is one of some: what plain, tagName, listed answer. -/
import Derived.Test.YtjghkiphfpeocaaTnS
namespace Go.Proofs.Ytjghkiphfpeocaa
open Go.RowKit

theorem size0 {s : ByteArray} (h : s.size = 0) : s = ⟨#[]⟩ := by
  rw [← S_B s]
  have : B s = [] := List.eq_nil_of_length_eq_zero (by rw [← size_B]; exact h)
  rw [this]
  rfl
theorem list_ne {s : ByteArray} (h : ¬ s.size = 0) : (s.toList == []) = false ∧ s.toList.isEmpty = false := by
  rw [toList_B]
  cases hb : B s with
  | nil => exact absurd (by rw [size_B, hb]; rfl) h
  | cons a b => exact ⟨rfl, rfl⟩
def plainB (b1 b2 b3 : Bool) (nm tx : ByteArray) (n : Nat) (sf : Bool) : Bool := (b1 || decide (nm.size = 0)) && (b2 || (decide (n = 0) && !sf)) && (b3 || decide (tx.size = 0))
set_option maxHeartbeats 8000000 in
set_option maxRecDepth 100000 in
theorem plain_gen (w : World) (b1 b2 b3 : Bool) (hb : (b1 = true ∧ b2 = false ∧ b3 = false) ∨ (b1 = true ∧ b2 = true ∧ b3 = false) ∨ (b1 = false ∧ b2 = false ∧ b3 = true) ∨ (b1 = false ∧ b2 = false ∧ b3 = false)) (kd : Int) (nm tx : ByteArray) (A : Option Addr) (n c : Nat) (sf : Bool) :
    Calls Try.prog 39 #[.agg #[.int .i64 kd, .string nm, .slice A n c, .bool sf, .string tx], .bool b1, .bool b2, .bool b3] w fun e w' => e = .returned (.bool (plainB b1 b2 b3 nm tx n sf)) ∧ Below w.heap.size w w' := by
  have HB0 := Lib.hid (below_tokR w #[.int .i64 kd, .string nm, .slice A n c, .bool sf, .string tx])
  have hc := Blk.new w 34 #[.int .i64 kd, .string nm, .slice A n c, .bool sf, .string tx] (0, 0)
  have k1 := hc.cell 1
  have k2 := hc.cell 2
  have k3 := hc.cell 3
  have k4 := hc.cell 4
  clear hc
  have hP : Hid (plainB b1 b2 b3 nm tx n sf = ((b1 || decide (nm.size = 0)) && (b2 || (decide (n = 0) && !sf)) && (b3 || decide (tx.size = 0)))) := rfl
  generalize plainB b1 b2 b3 nm tx n sf = P at *
  rcases hb with ⟨rfl, rfl, rfl⟩ | ⟨rfl, rfl, rfl⟩ | ⟨rfl, rfl, rfl⟩ | ⟨rfl, rfl, rfl⟩
  all_goals
    by_cases hn : nm.size = 0
    · obtain rfl := size0 hn
      by_cases h0 : n = 0
      · subst h0
        by_cases ht : tx.size = 0
        · obtain rfl := size0 ht
          cases sf
          all_goals
            have HN := Lib.hid hn
            have HT := Lib.hid ht
            clear hn ht
            go_enter Try.func39, Try.ntmps39
            go_wp2_with fail
            go_ret
            refine ⟨ret_bool ?_, HB0.out⟩
            rw [hP.out]
            have q1 := HN.out
            have q2 := HT.out
            simp_all
        · obtain ⟨t1, t2⟩ := list_ne ht
          cases sf
          all_goals
            have HN := Lib.hid hn
            have HT := Lib.hid ht
            clear hn ht
            go_enter Try.func39, Try.ntmps39
            go_wp2_with fail
            go_ret
            refine ⟨ret_bool ?_, HB0.out⟩
            rw [hP.out]
            have q1 := HN.out
            have q2 := HT.out
            simp_all
      · have z0 : ((n : Int) == 0) = false := by rw [beq_eq_false_iff_ne]; omega
        have z1 : (n == 0) = false := by rw [beq_eq_false_iff_ne]; exact h0
        by_cases ht : tx.size = 0
        · obtain rfl := size0 ht
          cases sf
          all_goals
            have HN := Lib.hid hn
            have HT := Lib.hid ht
            have H0 := Lib.hid h0
            clear hn ht h0
            go_enter Try.func39, Try.ntmps39
            go_wp2_with fail
            go_ret
            refine ⟨ret_bool ?_, HB0.out⟩
            rw [hP.out]
            have q1 := HN.out
            have q2 := HT.out
            have q3 := H0.out
            simp_all
        · obtain ⟨t1, t2⟩ := list_ne ht
          cases sf
          all_goals
            have HN := Lib.hid hn
            have HT := Lib.hid ht
            have H0 := Lib.hid h0
            clear hn ht h0
            go_enter Try.func39, Try.ntmps39
            go_wp2_with fail
            go_ret
            refine ⟨ret_bool ?_, HB0.out⟩
            rw [hP.out]
            have q1 := HN.out
            have q2 := HT.out
            have q3 := H0.out
            simp_all
    · obtain ⟨n1, n2⟩ := list_ne hn
      by_cases h0 : n = 0
      · subst h0
        by_cases ht : tx.size = 0
        · obtain rfl := size0 ht
          cases sf
          all_goals
            have HN := Lib.hid hn
            have HT := Lib.hid ht
            clear hn ht
            go_enter Try.func39, Try.ntmps39
            go_wp2_with fail
            go_ret
            refine ⟨ret_bool ?_, HB0.out⟩
            rw [hP.out]
            have q1 := HN.out
            have q2 := HT.out
            simp_all
        · obtain ⟨t1, t2⟩ := list_ne ht
          cases sf
          all_goals
            have HN := Lib.hid hn
            have HT := Lib.hid ht
            clear hn ht
            go_enter Try.func39, Try.ntmps39
            go_wp2_with fail
            go_ret
            refine ⟨ret_bool ?_, HB0.out⟩
            rw [hP.out]
            have q1 := HN.out
            have q2 := HT.out
            simp_all
      · have z0 : ((n : Int) == 0) = false := by rw [beq_eq_false_iff_ne]; omega
        have z1 : (n == 0) = false := by rw [beq_eq_false_iff_ne]; exact h0
        by_cases ht : tx.size = 0
        · obtain rfl := size0 ht
          cases sf
          all_goals
            have HN := Lib.hid hn
            have HT := Lib.hid ht
            have H0 := Lib.hid h0
            clear hn ht h0
            go_enter Try.func39, Try.ntmps39
            go_wp2_with fail
            go_ret
            refine ⟨ret_bool ?_, HB0.out⟩
            rw [hP.out]
            have q1 := HN.out
            have q2 := HT.out
            have q3 := H0.out
            simp_all
        · obtain ⟨t1, t2⟩ := list_ne ht
          cases sf
          all_goals
            have HN := Lib.hid hn
            have HT := Lib.hid ht
            have H0 := Lib.hid h0
            clear hn ht h0
            go_enter Try.func39, Try.ntmps39
            go_wp2_with fail
            go_ret
            refine ⟨ret_bool ?_, HB0.out⟩
            rw [hP.out]
            have q1 := HN.out
            have q2 := HT.out
            have q3 := H0.out
            simp_all

/-- The names of TokenNumbers, and whether a tag may have them. -/
def tagN (s : ByteArray) : Bool := s == ⟨#[112]⟩ || s == ⟨#[98, 114]⟩
def names7 : List ByteArray := [⟨#[]⟩, ⟨#[112]⟩, ⟨#[80]⟩, ⟨#[49]⟩, ⟨#[98, 114]⟩, ⟨#[112, 32, 113]⟩, ⟨#[112, 47]⟩]
end Go.Proofs.Ytjghkiphfpeocaa
