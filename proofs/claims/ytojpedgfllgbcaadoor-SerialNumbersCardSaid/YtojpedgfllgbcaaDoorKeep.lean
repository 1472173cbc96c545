/- arbourbook.Within and arbourkeep.Names: what they answer. -/
import Derived.Test.YtojpedgfllgbcaaDoorBase
import Derived.Test.YtojpedgfllgbcaaDoorLit
namespace Go.Proofs.YtojpedgfllgbcaaDoor
open Go.RowKit

theorem within_keep (n lo hi : Int) (w : World) (h0 : 0 ≤ lo) (h : lo ≤ hi) (h2 : hi ≤ 140737488355328) :
    Calls Tryd.prog 27 #[.int .i64 n, .int .i64 lo, .int .i64 hi] w fun e w' => e = .returned (.int .i64 (withinI n lo hi)) ∧ w = w' := by
  have h1 := Int.tmod_lt_of_pos n (show 0 < hi - lo + 1 by omega)
  have h3 := Int.lt_tmod_of_pos n (show 0 < hi - lo + 1 by omega)
  have e : ((hi - lo + 1) == 0) = false := by rw [beq_eq_false_iff_ne]; omega
  go_enter Tryd.func27, Tryd.ntmps27
  go_wp2_with fail
  · go_ret
    exact ⟨congrArg (fun b => Ending.returned (.int .i64 b)) (by unfold withinI; rw [if_pos (by assumption)]), rfl⟩
  · go_ret
    exact ⟨congrArg (fun b => Ending.returned (.int .i64 b)) (by unfold withinI; rw [if_neg (by omega)]), rfl⟩

def namesN : List ByteArray := [⟨#[112]⟩, ⟨#[98]⟩, ⟨#[105]⟩, ⟨#[97]⟩, ⟨#[100, 105, 118]⟩, ⟨#[116, 97, 98, 108, 101]⟩, ⟨#[116, 114]⟩, ⟨#[116, 100]⟩, ⟨#[116, 98, 111, 100, 121]⟩, ⟨#[108, 105]⟩, ⟨#[117, 108]⟩, ⟨#[115, 118, 103]⟩, ⟨#[116, 101, 109, 112, 108, 97, 116, 101]⟩, ⟨#[102, 111, 114, 109]⟩, ⟨#[98, 117, 116, 116, 111, 110]⟩, ⟨#[110, 111, 98, 114]⟩, ⟨#[104, 49]⟩, ⟨#[104, 50]⟩, ⟨#[98, 114]⟩, ⟨#[116, 105, 116, 108, 101]⟩, ⟨#[116, 101, 120, 116, 97, 114, 101, 97]⟩, ⟨#[115, 116, 121, 108, 101]⟩, ⟨#[115, 99, 114, 105, 112, 116]⟩, ⟨#[112, 114, 101]⟩, ⟨#[111, 98, 106, 101, 99, 116]⟩, ⟨#[100, 100]⟩, ⟨#[100, 116]⟩, ⟨#[98, 111, 100, 121]⟩, ⟨#[104, 116, 109, 108]⟩, ⟨#[104, 101, 97, 100]⟩, ⟨#[102, 111, 114, 101, 105, 103, 110, 111, 98, 106, 101, 99, 116]⟩, ⟨#[100, 101, 115, 99]⟩, ⟨#[115, 112, 97, 110]⟩, ⟨#[102, 111, 110, 116]⟩, ⟨#[116, 104]⟩, ⟨#[116, 104, 101, 97, 100]⟩, ⟨#[105, 110, 112, 117, 116]⟩, ⟨#[104, 114]⟩, ⟨#[120, 109, 112]⟩, ⟨#[112, 108, 97, 105, 110, 116, 101, 120, 116]⟩, ⟨#[110, 111, 115, 99, 114, 105, 112, 116]⟩, ⟨#[105, 109, 103]⟩, ⟨#[105, 109, 97, 103, 101]⟩, ⟨#[108, 105, 110, 107]⟩, ⟨#[97, 100, 100, 114, 101, 115, 115]⟩, ⟨#[97, 112, 112, 108, 101, 116]⟩, ⟨#[101, 109]⟩, ⟨#[115, 101, 108, 101, 99, 116]⟩]
/-- The name that a number stands for. -/
def nameAt (n : Int) : ByteArray := namesN[((withinI n 0 1048576).toNat % 48)]?.getD ⟨#[]⟩
theorem nameAt_in (n : Int) : nameAt n ∈ namesN := by
  unfold nameAt
  have h : (withinI n 0 1048576).toNat % 48 < namesN.length := Nat.mod_lt _ (by decide)
  rw [List.getElem?_eq_getElem h]
  exact List.getElem_mem h
theorem names_keep (n : Int) (w : World) :
    Calls Tryd.prog 44 #[.int .i64 n] w fun e w' => e = .returned (.string (nameAt n)) ∧ Below w.heap.size w w' := by
  have hb := withinI_bd n 0 1048576 (by omega)
  have hr := rd_lit w 9 namesN
  obtain ⟨ad, e, hc⟩ := hr.2.2 (by decide)
  cases e
  have hx : namesN[((withinI n 0 1048576).toNat % 48)]? = some (nameAt n) := by
    have h : (withinI n 0 1048576).toNat % 48 < namesN.length := Nat.mod_lt _ (by decide)
    unfold nameAt
    rw [List.getElem?_eq_getElem h]; rfl
  have k1 := strs_at hc hx
  have hk : Hid (namesN.length = 48) := by show namesN.length = 48; decide
  generalize nameAt n = x at *
  generalize hW : withinI n 0 1048576 = i at *
  obtain ⟨k, rfl⟩ : ∃ k : Nat, i = (k : Int) := ⟨i.toNat, by omega⟩
  have e1 : (k : Int).tmod 48 = ((k % 48 : Nat) : Int) := by
    rw [Int.tmod_eq_emod_of_nonneg (by omega)]; omega
  simp only [Int.toNat_natCast] at k1
  have HK := Lib.hid k1
  have hlt : k % 48 < 48 := Nat.mod_lt _ (by decide)
  have HW := Lib.hid hW
  clear hc hr k1 hx hW
  go_enter Tryd.func44, Tryd.ntmps44
  go_wp2_with fail
  refine (within_keep n 0 1048576 _ (by omega) (by omega) (by omega)).mono ?_
  rintro e w1 ⟨rfl, hw1⟩
  rw [HW.out]
  have k2 : w1.cell? ⟨w.heap.size, k % 48, none⟩ = some (.string x) := by rw [← hw1, ← add0]; exact HK.out
  have hb1 : Below w.heap.size w w1 := by rw [← hw1]; exact (Below.refl _ _).alloc (Nat.le_refl _) _
  clear hw1
  go_wp2_with fail
  go_ret
  exact ⟨rfl, hb1⟩
end Go.Proofs.YtojpedgfllgbcaaDoor
