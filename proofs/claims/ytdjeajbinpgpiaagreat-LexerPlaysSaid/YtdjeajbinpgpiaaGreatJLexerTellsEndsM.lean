/- arbourkeep.Names, Piece, Markup: how long what they answer is. -/
import Derived.Test.YtdjeajbinpgpiaaGreatJLexerTells6
import Derived.Test.YtdjeajbinpgpiaaGreatJLexerTellsLit
import Derived.Laws.IdiomStrings
import Derived.LoopN
namespace Go.Proofs.YtdjeajbinpgpiaaGreat
open Go.RowKit

def namesK : List ByteArray := [⟨#[112]⟩, ⟨#[98]⟩, ⟨#[105]⟩, ⟨#[97]⟩, ⟨#[100, 105, 118]⟩, ⟨#[116, 97, 98, 108, 101]⟩, ⟨#[116, 114]⟩, ⟨#[116, 100]⟩, ⟨#[116, 98, 111, 100, 121]⟩, ⟨#[108, 105]⟩, ⟨#[117, 108]⟩, ⟨#[115, 118, 103]⟩, ⟨#[116, 101, 109, 112, 108, 97, 116, 101]⟩, ⟨#[102, 111, 114, 109]⟩, ⟨#[98, 117, 116, 116, 111, 110]⟩, ⟨#[110, 111, 98, 114]⟩, ⟨#[104, 49]⟩, ⟨#[104, 50]⟩, ⟨#[98, 114]⟩, ⟨#[116, 105, 116, 108, 101]⟩, ⟨#[116, 101, 120, 116, 97, 114, 101, 97]⟩, ⟨#[115, 116, 121, 108, 101]⟩, ⟨#[115, 99, 114, 105, 112, 116]⟩, ⟨#[112, 114, 101]⟩, ⟨#[111, 98, 106, 101, 99, 116]⟩, ⟨#[100, 100]⟩, ⟨#[100, 116]⟩, ⟨#[98, 111, 100, 121]⟩, ⟨#[104, 116, 109, 108]⟩, ⟨#[104, 101, 97, 100]⟩, ⟨#[102, 111, 114, 101, 105, 103, 110, 111, 98, 106, 101, 99, 116]⟩, ⟨#[100, 101, 115, 99]⟩, ⟨#[115, 112, 97, 110]⟩, ⟨#[102, 111, 110, 116]⟩, ⟨#[116, 104]⟩, ⟨#[116, 104, 101, 97, 100]⟩, ⟨#[105, 110, 112, 117, 116]⟩, ⟨#[104, 114]⟩, ⟨#[120, 109, 112]⟩, ⟨#[112, 108, 97, 105, 110, 116, 101, 120, 116]⟩, ⟨#[110, 111, 115, 99, 114, 105, 112, 116]⟩, ⟨#[105, 109, 103]⟩, ⟨#[105, 109, 97, 103, 101]⟩, ⟨#[108, 105, 110, 107]⟩, ⟨#[97, 100, 100, 114, 101, 115, 115]⟩, ⟨#[97, 112, 112, 108, 101, 116]⟩, ⟨#[101, 109]⟩, ⟨#[115, 101, 108, 101, 99, 116]⟩]
set_option maxHeartbeats 4000000 in
theorem names_size (n : Int) (w : World) :
    Calls Tryz.prog 35 #[.int .i64 n] w fun e w' => ∃ x : ByteArray, e = .returned (.string x) ∧ x.size ≤ 20 ∧ Below w.heap.size w w' := by
  have hb := withinI_bd n 0 1048576 (by omega)
  have hr := rd_lit w 9 namesK
  obtain ⟨ad, e, hc⟩ := hr.2.2 (by decide)
  cases e
  have h : (withinI n 0 1048576).toNat % 48 < namesK.length := Nat.mod_lt _ (by decide)
  obtain ⟨x, hx⟩ : ∃ x, namesK[((withinI n 0 1048576).toNat % 48)]? = some x := ⟨_, List.getElem?_eq_getElem h⟩
  have hxs : x.size ≤ 20 := (by decide : ∀ x ∈ namesK, x.size ≤ 20) _ (List.mem_of_getElem? hx)
  have k1 := strs_at hc hx
  have hk : Hid (namesK.length = 48) := by show namesK.length = 48; decide
  generalize hW : withinI n 0 1048576 = i at *
  obtain ⟨k, rfl⟩ : ∃ k : Nat, i = (k : Int) := ⟨i.toNat, by omega⟩
  have e1 : (k : Int).tmod 48 = ((k % 48 : Nat) : Int) := by
    rw [Int.tmod_eq_emod_of_nonneg (by omega)]; omega
  simp only [Int.toNat_natCast] at k1
  have HK := Lib.hid k1
  have hlt : k % 48 < 48 := Nat.mod_lt _ (by decide)
  have HW := Lib.hid hW
  clear hc hr k1 hx hW h
  go_enter Tryz.func35, Tryz.ntmps35
  go_wp2_with fail
  refine (bwithin_any n 0 1048576 _ (by omega) (by omega) (by omega)).mono ?_
  rintro e w1 ⟨rfl, hw1⟩
  rw [HW.out]
  have k2 : w1.cell? ⟨w.heap.size, k % 48, none⟩ = some (.string x) := by rw [← hw1, ← add0]; exact HK.out
  have hb1 : Below w.heap.size w w1 := by rw [← hw1]; exact (Below.refl _ _).alloc (Nat.le_refl _) _
  clear hw1
  go_wp2_with fail
  go_ret
  exact ⟨x, rfl, hxs, hb1⟩
set_option maxHeartbeats 8000000 in
theorem piece_size (n k : Int) (w : World) :
    Calls Tryz.prog 23 #[.int .i64 n, .int .i64 k] w fun e w' => ∃ x : ByteArray, e = .returned (.string x) ∧ x.size ≤ 60 ∧ Below w.heap.size w w' := by
  have hb := withinI_bd n 0 1048576 (by omega)
  have HN := Lib.hid (names_size k w)
  have HWI := Lib.hid (fun w => bwithin_any n 0 1048576 w (by omega) (by omega) (by omega))
  obtain ⟨i, hi⟩ := Int.eq_ofNat_of_zero_le hb.1
  rw [hi] at HWI
  have e1 : (i : Int).tmod 16 = ((i % 16 : Nat) : Int) := by
    rw [Int.tmod_eq_emod_of_nonneg (by omega)]; omega
  have hlt : i % 16 < 16 := Nat.mod_lt _ (by decide)
  generalize i % 16 = m at *
  clear hb hi
  have fin : ∀ (a x b : ByteArray), x.size ≤ 20 → a.size ≤ 2 → b.size ≤ 24 → ((a ++ x) ++ b).size ≤ 60 := fun a x b h1 h2 h3 => by rw [ByteArray.size_append, ByteArray.size_append]; omega
  have FIN := Lib.hid fin
  clear fin
  have hm : m = 0 ∨ m = 1 ∨ m = 2 ∨ m = 3 ∨ m = 4 ∨ m = 5 ∨ m = 6 ∨ m = 7 ∨ m = 8 ∨ m = 9 ∨ m = 10 ∨ m = 11 ∨ m = 12 ∨ m = 13 ∨ m = 14 ∨ m = 15 := by omega
  go_enter Tryz.func23, Tryz.ntmps23
  go_wp2_with fail
  refine HN.out.mono ?_
  rintro e w1 ⟨x, rfl, hx, b1⟩
  have hq1 : (⟨#[60]⟩ ++ x : ByteArray).size ≤ 22 := by rw [ByteArray.size_append]; show 1 + _ ≤ _; omega
  have hq2 : (⟨#[60, 47]⟩ ++ x : ByteArray).size ≤ 22 := by rw [ByteArray.size_append]; show 2 + _ ≤ _; omega
  have q1 : (⟨#[60]⟩ : ByteArray).size + x.size ≤ 9223372036854775807 := by show 1 + _ ≤ _; omega
  have q2 : (⟨#[60, 47]⟩ : ByteArray).size + x.size ≤ 9223372036854775807 := by show 2 + _ ≤ _; omega
  have q3 : (⟨#[60]⟩ ++ x : ByteArray).size + (⟨#[62]⟩ : ByteArray).size ≤ 9223372036854775807 := by show _ + 1 ≤ _; omega
  have q4 : (⟨#[60, 47]⟩ ++ x : ByteArray).size + (⟨#[62]⟩ : ByteArray).size ≤ 9223372036854775807 := by show _ + 1 ≤ _; omega
  have q5 : (⟨#[60]⟩ ++ x : ByteArray).size + (⟨#[47, 62]⟩ : ByteArray).size ≤ 9223372036854775807 := by show _ + 2 ≤ _; omega
  have q6 : (⟨#[60]⟩ ++ x : ByteArray).size + (⟨#[32, 97, 61, 49, 32, 116, 121, 112, 101, 61, 104, 105, 100, 100, 101, 110, 62]⟩ : ByteArray).size ≤ 9223372036854775807 := by show _ + 17 ≤ _; omega
  have q7 : (⟨#[60]⟩ ++ x : ByteArray).size + (⟨#[32, 99, 111, 108, 111, 114, 61, 114, 101, 100, 32, 98, 61, 39, 38, 97, 109, 112, 59, 39, 62, 116]⟩ : ByteArray).size ≤ 9223372036854775807 := by show _ + 22 ≤ _; omega
  have HX := Lib.hid hx
  have HB1 := Lib.hid b1
  clear hx b1 hq1 hq2
  go_wp2_with fail
  refine (HWI.out _).mono ?_
  rintro e w2 ⟨rfl, rfl⟩
  rcases hm with rfl | rfl | rfl | rfl | rfl | rfl | rfl | rfl | rfl | rfl | rfl | rfl | rfl | rfl | rfl | rfl
  all_goals
    go_wp2_with fail
    go_ret
    exact ⟨_, rfl, (by first | exact FIN.out _ _ _ HX.out (by decide) (by decide) | decide), HB1.out⟩
end Go.Proofs.YtdjeajbinpgpiaaGreat
