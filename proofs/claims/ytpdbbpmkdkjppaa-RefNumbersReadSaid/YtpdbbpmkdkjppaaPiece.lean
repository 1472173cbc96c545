/- piece: one of some texts that references are made of. -/
import Derived.Test.YtpdbbpmkdkjppaaRefSame
namespace Go.Proofs.Ytpdbbpmkdkjppaa
open Go.RowKit

set_option maxHeartbeats 4000000 in
set_option maxRecDepth 100000 in
theorem piece_0 (n : Int) (hk8 : (withinI n 0 1048576).toNat % 8 = 0) (w : World) :
    Calls Try.prog 11 #[.int .i64 n] w (PieceOut w) := by
  have hb := withinI_bd n 0 1048576 (by omega)
  have HW0 := Lib.hid (bwithin_any n 0 1048576 · (by omega) (by omega) (by omega))
  generalize withinI n 0 1048576 = i at *
  obtain ⟨k, rfl⟩ : ∃ k : Nat, i = (k : Int) := ⟨i.toNat, by omega⟩
  have m8 : (k : Int).tmod 8 = ((k % 8 : Nat) : Int) := tmod_nat k 8
  have d8 : (k : Int).tdiv 8 = ((k / 8 : Nat) : Int) := tdiv_nat k 8
  have m51 : ((k / 8 : Nat) : Int).tmod 51 = ((k / 8 % 51 : Nat) : Int) := tmod_nat _ 51
  have hj : k / 8 % 51 < 51 := Nat.mod_lt _ (by decide)
  obtain ⟨x, hx⟩ : ∃ x, tabT[k / 8 % 51]? = some x := ⟨_, List.getElem?_eq_getElem (show k / 8 % 51 < tabT.length from hj)⟩
  have hxz := (tab_facts x (List.mem_of_getElem? hx)).2.1
  have HX := Lib.hid hx
  clear hx
  obtain ⟨x1, x2⟩ := x
  simp only at hxz
  simp only [Int.toNat_natCast] at hk8
  rw [hk8] at m8
  clear hk8
  have hd0 : k / 8 ≤ 131072 := by omega
  have m10 : ((k / 8 : Nat) : Int).tmod 10 = ((k / 8 % 10 : Nat) : Int) := tmod_nat _ 10
  have n8 : ((k / 8 : Nat) : Int).tmod 8 = ((k / 8 % 8 : Nat) : Int) := tmod_nat _ 8
  have m58 : ((k / 8 : Nat) : Int).tmod 58 = ((k / 8 % 58 : Nat) : Int) := tmod_nat _ 58
  have hy : k / 8 % 10 < 10 := Nat.mod_lt _ (by decide)
  have hz : k / 8 % 8 < 8 := Nat.mod_lt _ (by decide)
  have hq : k / 8 % 58 < 58 := Nat.mod_lt _ (by decide)
  generalize k / 8 = d at *
  generalize d % 51 = j at *
  generalize d % 10 = y at *
  generalize d % 8 = z at *
  generalize d % 58 = q at *
  have w1 : wrap32 (48 + (y : Int)) = 48 + (y : Int) := by unfold wrap32; omega
  have w2 : wrap32 (97 + (z : Int)) = 97 + (z : Int) := by unfold wrap32; omega
  have w3 : wrap32 (65 + (q : Int)) = 65 + (q : Int) := by unfold wrap32; omega
  have z1 := encode_size_le (48 + (y : Int))
  have z2 := encode_size_le (97 + (z : Int))
  have z3 := encode_size_le (65 + (q : Int))
  have hsum : (⟨#[38]⟩ : ByteArray).size + x1.size ≤ 9223372036854775807 := by show 1 + x1.size ≤ _; omega
  have hsum1 : (⟨#[38, 35]⟩ : ByteArray).size + (Utf8.encode (48 + (y : Int))).size ≤ 9223372036854775807 := by show 2 + _ ≤ _; omega
  have hsum2 : (⟨#[38, 35, 120]⟩ : ByteArray).size + (Utf8.encode (97 + (z : Int))).size ≤ 9223372036854775807 := by show 3 + _ ≤ _; omega
  have HZ : Hid ((⟨#[38]⟩ ++ x1 : ByteArray).size ≤ 40 ∧ (⟨#[38, 35]⟩ ++ Utf8.encode (48 + (y : Int)) : ByteArray).size ≤ 40 ∧ (⟨#[38, 35, 120]⟩ ++ Utf8.encode (97 + (z : Int)) : ByteArray).size ≤ 40 ∧ (⟨#[59]⟩ : ByteArray).size ≤ 40 ∧ (⟨#[61]⟩ : ByteArray).size ≤ 40 ∧ (⟨#[38]⟩ : ByteArray).size ≤ 40 ∧ (Utf8.encode (48 + (y : Int))).size ≤ 40 ∧ (Utf8.encode (65 + (q : Int))).size ≤ 40) := by
    refine ⟨?_, ?_, ?_, by decide, by decide, by decide, by omega, by omega⟩
    · rw [ByteArray.size_append]; show 1 + _ ≤ 40; omega
    · rw [ByteArray.size_append]; show 2 + _ ≤ 40; omega
    · rw [ByteArray.size_append]; show 3 + _ ≤ 40; omega
  clear m10 n8 m58 w1 w2 w3 hsum1 hsum2 z1 z2 z3
  go_enter Try.func11, Try.ntmps11
  go_wp2_with fail
  refine (allnames_any _).mono ?_
  rintro e w1 ⟨ad, c, rfl, hc, hb1⟩
  have k1 := hc j _ HX.out
  have HB1 := Lib.hid hb1
  clear hc hb1
  go_wp2_with fail
  refine (HW0.out _).mono ?_
  rintro e w2 ⟨rfl, rfl⟩
  go_wp2_with fail
  go_ret
  exact ⟨_, rfl, HZ.out.1, HB1.out⟩
set_option maxHeartbeats 4000000 in
set_option maxRecDepth 100000 in
theorem piece_1 (n : Int) (hk8 : (withinI n 0 1048576).toNat % 8 = 1) (w : World) :
    Calls Try.prog 11 #[.int .i64 n] w (PieceOut w) := by
  have hb := withinI_bd n 0 1048576 (by omega)
  have HW0 := Lib.hid (bwithin_any n 0 1048576 · (by omega) (by omega) (by omega))
  generalize withinI n 0 1048576 = i at *
  obtain ⟨k, rfl⟩ : ∃ k : Nat, i = (k : Int) := ⟨i.toNat, by omega⟩
  have m8 : (k : Int).tmod 8 = ((k % 8 : Nat) : Int) := tmod_nat k 8
  have d8 : (k : Int).tdiv 8 = ((k / 8 : Nat) : Int) := tdiv_nat k 8
  simp only [Int.toNat_natCast] at hk8
  rw [hk8] at m8
  clear hk8
  generalize k / 8 = d at *
  have z1 := encode_size_le (wrap32 (wrap64 (48 + (wrap64 (d : Int)).tmod 10)))
  have hsum : (⟨#[38, 35]⟩ : ByteArray).size + (Utf8.encode (wrap32 (wrap64 (48 + (wrap64 (d : Int)).tmod 10)))).size ≤ 9223372036854775807 := by show 2 + _ ≤ _; omega
  have HZ : Hid ((⟨#[38, 35]⟩ ++ Utf8.encode (wrap32 (wrap64 (48 + (wrap64 (d : Int)).tmod 10))) : ByteArray).size ≤ 40) := by show _ ≤ _; rw [ByteArray.size_append]; show 2 + _ ≤ 40; omega
  clear z1
  go_enter Try.func11, Try.ntmps11
  go_wp2_with fail
  refine (allnames_any _).mono ?_
  rintro e w1 ⟨ad, c, rfl, hc, hb1⟩
  have HB1 := Lib.hid hb1
  clear hc hb1
  go_wp2_with fail
  refine (HW0.out _).mono ?_
  rintro e w2 ⟨rfl, rfl⟩
  go_wp2_with fail
  go_ret
  exact ⟨_, rfl, HZ.out, HB1.out⟩
set_option maxHeartbeats 4000000 in
set_option maxRecDepth 100000 in
theorem piece_2 (n : Int) (hk8 : (withinI n 0 1048576).toNat % 8 = 2) (w : World) :
    Calls Try.prog 11 #[.int .i64 n] w (PieceOut w) := by
  have hb := withinI_bd n 0 1048576 (by omega)
  have HW0 := Lib.hid (bwithin_any n 0 1048576 · (by omega) (by omega) (by omega))
  generalize withinI n 0 1048576 = i at *
  obtain ⟨k, rfl⟩ : ∃ k : Nat, i = (k : Int) := ⟨i.toNat, by omega⟩
  have m8 : (k : Int).tmod 8 = ((k % 8 : Nat) : Int) := tmod_nat k 8
  have d8 : (k : Int).tdiv 8 = ((k / 8 : Nat) : Int) := tdiv_nat k 8
  simp only [Int.toNat_natCast] at hk8
  rw [hk8] at m8
  clear hk8
  generalize k / 8 = d at *
  have z1 := encode_size_le (wrap32 (wrap64 (97 + (wrap64 (d : Int)).tmod 8)))
  have hsum : (⟨#[38, 35, 120]⟩ : ByteArray).size + (Utf8.encode (wrap32 (wrap64 (97 + (wrap64 (d : Int)).tmod 8)))).size ≤ 9223372036854775807 := by show 3 + _ ≤ _; omega
  have HZ : Hid ((⟨#[38, 35, 120]⟩ ++ Utf8.encode (wrap32 (wrap64 (97 + (wrap64 (d : Int)).tmod 8))) : ByteArray).size ≤ 40) := by show _ ≤ _; rw [ByteArray.size_append]; show 3 + _ ≤ 40; omega
  clear z1
  go_enter Try.func11, Try.ntmps11
  go_wp2_with fail
  refine (allnames_any _).mono ?_
  rintro e w1 ⟨ad, c, rfl, hc, hb1⟩
  have HB1 := Lib.hid hb1
  clear hc hb1
  go_wp2_with fail
  refine (HW0.out _).mono ?_
  rintro e w2 ⟨rfl, rfl⟩
  go_wp2_with fail
  go_ret
  exact ⟨_, rfl, HZ.out, HB1.out⟩
set_option maxHeartbeats 4000000 in
set_option maxRecDepth 100000 in
theorem piece_3 (n : Int) (hk8 : (withinI n 0 1048576).toNat % 8 = 3) (w : World) :
    Calls Try.prog 11 #[.int .i64 n] w (PieceOut w) := by
  have hb := withinI_bd n 0 1048576 (by omega)
  have HW0 := Lib.hid (bwithin_any n 0 1048576 · (by omega) (by omega) (by omega))
  generalize withinI n 0 1048576 = i at *
  obtain ⟨k, rfl⟩ : ∃ k : Nat, i = (k : Int) := ⟨i.toNat, by omega⟩
  have m8 : (k : Int).tmod 8 = ((k % 8 : Nat) : Int) := tmod_nat k 8
  have d8 : (k : Int).tdiv 8 = ((k / 8 : Nat) : Int) := tdiv_nat k 8
  have m51 : ((k / 8 : Nat) : Int).tmod 51 = ((k / 8 % 51 : Nat) : Int) := tmod_nat _ 51
  have hj : k / 8 % 51 < 51 := Nat.mod_lt _ (by decide)
  obtain ⟨x, hx⟩ : ∃ x, tabT[k / 8 % 51]? = some x := ⟨_, List.getElem?_eq_getElem (show k / 8 % 51 < tabT.length from hj)⟩
  have hxz := (tab_facts x (List.mem_of_getElem? hx)).2.1
  have HX := Lib.hid hx
  clear hx
  obtain ⟨x1, x2⟩ := x
  simp only at hxz
  simp only [Int.toNat_natCast] at hk8
  rw [hk8] at m8
  clear hk8
  have hd0 : k / 8 ≤ 131072 := by omega
  have m10 : ((k / 8 : Nat) : Int).tmod 10 = ((k / 8 % 10 : Nat) : Int) := tmod_nat _ 10
  have n8 : ((k / 8 : Nat) : Int).tmod 8 = ((k / 8 % 8 : Nat) : Int) := tmod_nat _ 8
  have m58 : ((k / 8 : Nat) : Int).tmod 58 = ((k / 8 % 58 : Nat) : Int) := tmod_nat _ 58
  have hy : k / 8 % 10 < 10 := Nat.mod_lt _ (by decide)
  have hz : k / 8 % 8 < 8 := Nat.mod_lt _ (by decide)
  have hq : k / 8 % 58 < 58 := Nat.mod_lt _ (by decide)
  generalize k / 8 = d at *
  generalize d % 51 = j at *
  generalize d % 10 = y at *
  generalize d % 8 = z at *
  generalize d % 58 = q at *
  have w1 : wrap32 (48 + (y : Int)) = 48 + (y : Int) := by unfold wrap32; omega
  have w2 : wrap32 (97 + (z : Int)) = 97 + (z : Int) := by unfold wrap32; omega
  have w3 : wrap32 (65 + (q : Int)) = 65 + (q : Int) := by unfold wrap32; omega
  have z1 := encode_size_le (48 + (y : Int))
  have z2 := encode_size_le (97 + (z : Int))
  have z3 := encode_size_le (65 + (q : Int))
  have hsum : (⟨#[38]⟩ : ByteArray).size + x1.size ≤ 9223372036854775807 := by show 1 + x1.size ≤ _; omega
  have hsum1 : (⟨#[38, 35]⟩ : ByteArray).size + (Utf8.encode (48 + (y : Int))).size ≤ 9223372036854775807 := by show 2 + _ ≤ _; omega
  have hsum2 : (⟨#[38, 35, 120]⟩ : ByteArray).size + (Utf8.encode (97 + (z : Int))).size ≤ 9223372036854775807 := by show 3 + _ ≤ _; omega
  have HZ : Hid ((⟨#[38]⟩ ++ x1 : ByteArray).size ≤ 40 ∧ (⟨#[38, 35]⟩ ++ Utf8.encode (48 + (y : Int)) : ByteArray).size ≤ 40 ∧ (⟨#[38, 35, 120]⟩ ++ Utf8.encode (97 + (z : Int)) : ByteArray).size ≤ 40 ∧ (⟨#[59]⟩ : ByteArray).size ≤ 40 ∧ (⟨#[61]⟩ : ByteArray).size ≤ 40 ∧ (⟨#[38]⟩ : ByteArray).size ≤ 40 ∧ (Utf8.encode (48 + (y : Int))).size ≤ 40 ∧ (Utf8.encode (65 + (q : Int))).size ≤ 40) := by
    refine ⟨?_, ?_, ?_, by decide, by decide, by decide, by omega, by omega⟩
    · rw [ByteArray.size_append]; show 1 + _ ≤ 40; omega
    · rw [ByteArray.size_append]; show 2 + _ ≤ 40; omega
    · rw [ByteArray.size_append]; show 3 + _ ≤ 40; omega
  clear m51 m10 n8 m58 w1 w2 w3 hsum hsum1 hsum2 z1 z2 z3
  go_enter Try.func11, Try.ntmps11
  go_wp2_with fail
  refine (allnames_any _).mono ?_
  rintro e w1 ⟨ad, c, rfl, hc, hb1⟩
  have k1 := hc j _ HX.out
  have HB1 := Lib.hid hb1
  clear hc hb1
  go_wp2_with fail
  refine (HW0.out _).mono ?_
  rintro e w2 ⟨rfl, rfl⟩
  go_wp2_with fail
  go_ret
  exact ⟨_, rfl, HZ.out.2.2.2.1, HB1.out⟩
set_option maxHeartbeats 4000000 in
set_option maxRecDepth 100000 in
theorem piece_4 (n : Int) (hk8 : (withinI n 0 1048576).toNat % 8 = 4) (w : World) :
    Calls Try.prog 11 #[.int .i64 n] w (PieceOut w) := by
  have hb := withinI_bd n 0 1048576 (by omega)
  have HW0 := Lib.hid (bwithin_any n 0 1048576 · (by omega) (by omega) (by omega))
  generalize withinI n 0 1048576 = i at *
  obtain ⟨k, rfl⟩ : ∃ k : Nat, i = (k : Int) := ⟨i.toNat, by omega⟩
  have m8 : (k : Int).tmod 8 = ((k % 8 : Nat) : Int) := tmod_nat k 8
  have d8 : (k : Int).tdiv 8 = ((k / 8 : Nat) : Int) := tdiv_nat k 8
  have m51 : ((k / 8 : Nat) : Int).tmod 51 = ((k / 8 % 51 : Nat) : Int) := tmod_nat _ 51
  have hj : k / 8 % 51 < 51 := Nat.mod_lt _ (by decide)
  obtain ⟨x, hx⟩ : ∃ x, tabT[k / 8 % 51]? = some x := ⟨_, List.getElem?_eq_getElem (show k / 8 % 51 < tabT.length from hj)⟩
  have hxz := (tab_facts x (List.mem_of_getElem? hx)).2.1
  have HX := Lib.hid hx
  clear hx
  obtain ⟨x1, x2⟩ := x
  simp only at hxz
  simp only [Int.toNat_natCast] at hk8
  rw [hk8] at m8
  clear hk8
  have hd0 : k / 8 ≤ 131072 := by omega
  have m10 : ((k / 8 : Nat) : Int).tmod 10 = ((k / 8 % 10 : Nat) : Int) := tmod_nat _ 10
  have n8 : ((k / 8 : Nat) : Int).tmod 8 = ((k / 8 % 8 : Nat) : Int) := tmod_nat _ 8
  have m58 : ((k / 8 : Nat) : Int).tmod 58 = ((k / 8 % 58 : Nat) : Int) := tmod_nat _ 58
  have hy : k / 8 % 10 < 10 := Nat.mod_lt _ (by decide)
  have hz : k / 8 % 8 < 8 := Nat.mod_lt _ (by decide)
  have hq : k / 8 % 58 < 58 := Nat.mod_lt _ (by decide)
  generalize k / 8 = d at *
  generalize d % 51 = j at *
  generalize d % 10 = y at *
  generalize d % 8 = z at *
  generalize d % 58 = q at *
  have w1 : wrap32 (48 + (y : Int)) = 48 + (y : Int) := by unfold wrap32; omega
  have w2 : wrap32 (97 + (z : Int)) = 97 + (z : Int) := by unfold wrap32; omega
  have w3 : wrap32 (65 + (q : Int)) = 65 + (q : Int) := by unfold wrap32; omega
  have z1 := encode_size_le (48 + (y : Int))
  have z2 := encode_size_le (97 + (z : Int))
  have z3 := encode_size_le (65 + (q : Int))
  have hsum : (⟨#[38]⟩ : ByteArray).size + x1.size ≤ 9223372036854775807 := by show 1 + x1.size ≤ _; omega
  have hsum1 : (⟨#[38, 35]⟩ : ByteArray).size + (Utf8.encode (48 + (y : Int))).size ≤ 9223372036854775807 := by show 2 + _ ≤ _; omega
  have hsum2 : (⟨#[38, 35, 120]⟩ : ByteArray).size + (Utf8.encode (97 + (z : Int))).size ≤ 9223372036854775807 := by show 3 + _ ≤ _; omega
  have HZ : Hid ((⟨#[38]⟩ ++ x1 : ByteArray).size ≤ 40 ∧ (⟨#[38, 35]⟩ ++ Utf8.encode (48 + (y : Int)) : ByteArray).size ≤ 40 ∧ (⟨#[38, 35, 120]⟩ ++ Utf8.encode (97 + (z : Int)) : ByteArray).size ≤ 40 ∧ (⟨#[59]⟩ : ByteArray).size ≤ 40 ∧ (⟨#[61]⟩ : ByteArray).size ≤ 40 ∧ (⟨#[38]⟩ : ByteArray).size ≤ 40 ∧ (Utf8.encode (48 + (y : Int))).size ≤ 40 ∧ (Utf8.encode (65 + (q : Int))).size ≤ 40) := by
    refine ⟨?_, ?_, ?_, by decide, by decide, by decide, by omega, by omega⟩
    · rw [ByteArray.size_append]; show 1 + _ ≤ 40; omega
    · rw [ByteArray.size_append]; show 2 + _ ≤ 40; omega
    · rw [ByteArray.size_append]; show 3 + _ ≤ 40; omega
  clear m51 m10 n8 m58 w1 w2 w3 hsum hsum1 hsum2 z1 z2 z3
  go_enter Try.func11, Try.ntmps11
  go_wp2_with fail
  refine (allnames_any _).mono ?_
  rintro e w1 ⟨ad, c, rfl, hc, hb1⟩
  have k1 := hc j _ HX.out
  have HB1 := Lib.hid hb1
  clear hc hb1
  go_wp2_with fail
  refine (HW0.out _).mono ?_
  rintro e w2 ⟨rfl, rfl⟩
  go_wp2_with fail
  go_ret
  exact ⟨_, rfl, HZ.out.2.2.2.2.1, HB1.out⟩
set_option maxHeartbeats 4000000 in
set_option maxRecDepth 100000 in
theorem piece_5 (n : Int) (hk8 : (withinI n 0 1048576).toNat % 8 = 5) (w : World) :
    Calls Try.prog 11 #[.int .i64 n] w (PieceOut w) := by
  have hb := withinI_bd n 0 1048576 (by omega)
  have HW0 := Lib.hid (bwithin_any n 0 1048576 · (by omega) (by omega) (by omega))
  generalize withinI n 0 1048576 = i at *
  obtain ⟨k, rfl⟩ : ∃ k : Nat, i = (k : Int) := ⟨i.toNat, by omega⟩
  have m8 : (k : Int).tmod 8 = ((k % 8 : Nat) : Int) := tmod_nat k 8
  have d8 : (k : Int).tdiv 8 = ((k / 8 : Nat) : Int) := tdiv_nat k 8
  have m51 : ((k / 8 : Nat) : Int).tmod 51 = ((k / 8 % 51 : Nat) : Int) := tmod_nat _ 51
  have hj : k / 8 % 51 < 51 := Nat.mod_lt _ (by decide)
  obtain ⟨x, hx⟩ : ∃ x, tabT[k / 8 % 51]? = some x := ⟨_, List.getElem?_eq_getElem (show k / 8 % 51 < tabT.length from hj)⟩
  have hxz := (tab_facts x (List.mem_of_getElem? hx)).2.1
  have HX := Lib.hid hx
  clear hx
  obtain ⟨x1, x2⟩ := x
  simp only at hxz
  simp only [Int.toNat_natCast] at hk8
  rw [hk8] at m8
  clear hk8
  have hd0 : k / 8 ≤ 131072 := by omega
  have m10 : ((k / 8 : Nat) : Int).tmod 10 = ((k / 8 % 10 : Nat) : Int) := tmod_nat _ 10
  have n8 : ((k / 8 : Nat) : Int).tmod 8 = ((k / 8 % 8 : Nat) : Int) := tmod_nat _ 8
  have m58 : ((k / 8 : Nat) : Int).tmod 58 = ((k / 8 % 58 : Nat) : Int) := tmod_nat _ 58
  have hy : k / 8 % 10 < 10 := Nat.mod_lt _ (by decide)
  have hz : k / 8 % 8 < 8 := Nat.mod_lt _ (by decide)
  have hq : k / 8 % 58 < 58 := Nat.mod_lt _ (by decide)
  generalize k / 8 = d at *
  generalize d % 51 = j at *
  generalize d % 10 = y at *
  generalize d % 8 = z at *
  generalize d % 58 = q at *
  have w1 : wrap32 (48 + (y : Int)) = 48 + (y : Int) := by unfold wrap32; omega
  have w2 : wrap32 (97 + (z : Int)) = 97 + (z : Int) := by unfold wrap32; omega
  have w3 : wrap32 (65 + (q : Int)) = 65 + (q : Int) := by unfold wrap32; omega
  have z1 := encode_size_le (48 + (y : Int))
  have z2 := encode_size_le (97 + (z : Int))
  have z3 := encode_size_le (65 + (q : Int))
  have hsum : (⟨#[38]⟩ : ByteArray).size + x1.size ≤ 9223372036854775807 := by show 1 + x1.size ≤ _; omega
  have hsum1 : (⟨#[38, 35]⟩ : ByteArray).size + (Utf8.encode (48 + (y : Int))).size ≤ 9223372036854775807 := by show 2 + _ ≤ _; omega
  have hsum2 : (⟨#[38, 35, 120]⟩ : ByteArray).size + (Utf8.encode (97 + (z : Int))).size ≤ 9223372036854775807 := by show 3 + _ ≤ _; omega
  have HZ : Hid ((⟨#[38]⟩ ++ x1 : ByteArray).size ≤ 40 ∧ (⟨#[38, 35]⟩ ++ Utf8.encode (48 + (y : Int)) : ByteArray).size ≤ 40 ∧ (⟨#[38, 35, 120]⟩ ++ Utf8.encode (97 + (z : Int)) : ByteArray).size ≤ 40 ∧ (⟨#[59]⟩ : ByteArray).size ≤ 40 ∧ (⟨#[61]⟩ : ByteArray).size ≤ 40 ∧ (⟨#[38]⟩ : ByteArray).size ≤ 40 ∧ (Utf8.encode (48 + (y : Int))).size ≤ 40 ∧ (Utf8.encode (65 + (q : Int))).size ≤ 40) := by
    refine ⟨?_, ?_, ?_, by decide, by decide, by decide, by omega, by omega⟩
    · rw [ByteArray.size_append]; show 1 + _ ≤ 40; omega
    · rw [ByteArray.size_append]; show 2 + _ ≤ 40; omega
    · rw [ByteArray.size_append]; show 3 + _ ≤ 40; omega
  clear m51 m10 n8 m58 w1 w2 w3 hsum hsum1 hsum2 z1 z2 z3
  go_enter Try.func11, Try.ntmps11
  go_wp2_with fail
  refine (allnames_any _).mono ?_
  rintro e w1 ⟨ad, c, rfl, hc, hb1⟩
  have k1 := hc j _ HX.out
  have HB1 := Lib.hid hb1
  clear hc hb1
  go_wp2_with fail
  refine (HW0.out _).mono ?_
  rintro e w2 ⟨rfl, rfl⟩
  go_wp2_with fail
  go_ret
  exact ⟨_, rfl, HZ.out.2.2.2.2.2.1, HB1.out⟩
set_option maxHeartbeats 4000000 in
set_option maxRecDepth 100000 in
theorem piece_6 (n : Int) (hk8 : (withinI n 0 1048576).toNat % 8 = 6) (w : World) :
    Calls Try.prog 11 #[.int .i64 n] w (PieceOut w) := by
  have hb := withinI_bd n 0 1048576 (by omega)
  have HW0 := Lib.hid (bwithin_any n 0 1048576 · (by omega) (by omega) (by omega))
  generalize withinI n 0 1048576 = i at *
  obtain ⟨k, rfl⟩ : ∃ k : Nat, i = (k : Int) := ⟨i.toNat, by omega⟩
  have m8 : (k : Int).tmod 8 = ((k % 8 : Nat) : Int) := tmod_nat k 8
  have d8 : (k : Int).tdiv 8 = ((k / 8 : Nat) : Int) := tdiv_nat k 8
  simp only [Int.toNat_natCast] at hk8
  rw [hk8] at m8
  clear hk8
  generalize k / 8 = d at *
  have z1 := encode_size_le (wrap32 (wrap64 (48 + (wrap64 (d : Int)).tmod 10)))
  have HZ : Hid ((Utf8.encode (wrap32 (wrap64 (48 + (wrap64 (d : Int)).tmod 10)))).size ≤ 40) := by show _ ≤ _; omega
  clear z1
  go_enter Try.func11, Try.ntmps11
  go_wp2_with fail
  refine (allnames_any _).mono ?_
  rintro e w1 ⟨ad, c, rfl, hc, hb1⟩
  have HB1 := Lib.hid hb1
  clear hc hb1
  go_wp2_with fail
  refine (HW0.out _).mono ?_
  rintro e w2 ⟨rfl, rfl⟩
  go_wp2_with fail
  go_ret
  exact ⟨_, rfl, HZ.out, HB1.out⟩
set_option maxHeartbeats 4000000 in
set_option maxRecDepth 100000 in
theorem piece_7 (n : Int) (hk8 : (withinI n 0 1048576).toNat % 8 = 7) (w : World) :
    Calls Try.prog 11 #[.int .i64 n] w (PieceOut w) := by
  have hb := withinI_bd n 0 1048576 (by omega)
  have HW0 := Lib.hid (bwithin_any n 0 1048576 · (by omega) (by omega) (by omega))
  generalize withinI n 0 1048576 = i at *
  obtain ⟨k, rfl⟩ : ∃ k : Nat, i = (k : Int) := ⟨i.toNat, by omega⟩
  have m8 : (k : Int).tmod 8 = ((k % 8 : Nat) : Int) := tmod_nat k 8
  have d8 : (k : Int).tdiv 8 = ((k / 8 : Nat) : Int) := tdiv_nat k 8
  simp only [Int.toNat_natCast] at hk8
  rw [hk8] at m8
  clear hk8
  generalize k / 8 = d at *
  have z1 := encode_size_le (wrap32 (wrap64 (65 + (wrap64 (d : Int)).tmod 58)))
  have HZ : Hid ((Utf8.encode (wrap32 (wrap64 (65 + (wrap64 (d : Int)).tmod 58)))).size ≤ 40) := by show _ ≤ _; omega
  clear z1
  go_enter Try.func11, Try.ntmps11
  go_wp2_with fail
  refine (allnames_any _).mono ?_
  rintro e w1 ⟨ad, c, rfl, hc, hb1⟩
  have HB1 := Lib.hid hb1
  clear hc hb1
  go_wp2_with fail
  refine (HW0.out _).mono ?_
  rintro e w2 ⟨rfl, rfl⟩
  go_wp2_with fail
  go_ret
  exact ⟨_, rfl, HZ.out, HB1.out⟩
theorem piece_any (n : Int) (w : World) :
    Calls Try.prog 11 #[.int .i64 n] w (PieceOut w) := by
  have hr : (withinI n 0 1048576).toNat % 8 < 8 := Nat.mod_lt _ (by decide)
  have hcases : (withinI n 0 1048576).toNat % 8 = 0 ∨ (withinI n 0 1048576).toNat % 8 = 1 ∨ (withinI n 0 1048576).toNat % 8 = 2 ∨ (withinI n 0 1048576).toNat % 8 = 3 ∨ (withinI n 0 1048576).toNat % 8 = 4 ∨ (withinI n 0 1048576).toNat % 8 = 5 ∨ (withinI n 0 1048576).toNat % 8 = 6 ∨ (withinI n 0 1048576).toNat % 8 = 7 := by omega
  rcases hcases with h | h | h | h | h | h | h | h
  · exact piece_0 n h w
  · exact piece_1 n h w
  · exact piece_2 n h w
  · exact piece_3 n h w
  · exact piece_4 n h w
  · exact piece_5 n h w
  · exact piece_6 n h w
  · exact piece_7 n h w
end Go.Proofs.Ytpdbbpmkdkjppaa
