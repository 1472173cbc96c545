/- Joined texts: RefP, Number. -/
import Derived.Test.YtdjeajbinpgpiaaGreatJLexerTells5
import Derived.Test.YtdjeajbinpgpiaaGreatJLexerTells6
import Derived.Test.YtdjeajbinpgpiaaGreatJLexerTells2
import Derived.Test.YtdjeajbinpgpiaaGreatJLexerTells1
import Derived.Deep.QuietTactic
import Derived.BigQuiet
namespace Go.Proofs.YtdjeajbinpgpiaaGreat
open Go.RowKit

theorem ret_ib {a c : Int} {b d : Bool} (h1 : a = c) (h2 : b = d) : Ending.returned (.tuple #[.int .i64 a, .bool b]) = .returned (.tuple #[.int .i64 c, .bool d]) := by rw [h1, h2]
theorem ret_si {a c : ByteArray} {b d : Int} (h1 : a = c) (h2 : b = d) : Ending.returned (.tuple #[.string a, .int .i64 b]) = .returned (.tuple #[.string c, .int .i64 d]) := by rw [h1, h2]
theorem ret_sib {a c : ByteArray} {b d : Int} {x y : Bool} (h1 : a = c) (h2 : b = d) (h3 : x = y) : Ending.returned (.tuple #[.string a, .int .i64 b, .bool x]) = .returned (.tuple #[.string c, .int .i64 d, .bool y]) := by rw [h1, h2, h3]
theorem digit_int (n : Nat) (w : World) :
    Calls Tryz.prog 92 #[.int .i32 (n : Int)] w fun e w' => e = .returned (.bool (decide (48 ≤ n) && decide (n ≤ 57))) ∧ w = w' := by
  go_enter Tryz.func92, Tryz.ntmps92
  go_wp2_with fail
  all_goals
    go_ret
    refine ⟨ret_bool ?_, rfl⟩
    rw [Bool.eq_iff_iff]
    simp only [Bool.and_eq_true, decide_eq_true_eq, Bool.false_eq_true, false_iff]
    omega
theorem digit_rune (c : UInt8) (w : World) :
    Calls Tryz.prog 92 #[.int .i32 (wrap32 (c.toNat : Int))] w fun e w' => e = .returned (.bool (digitB c)) ∧ w = w' := by
  rw [wrap_byte]
  exact digit_int c.toNat w
set_option maxHeartbeats 1000000 in
theorem hex_rune (c : UInt8) (w : World) :
    Calls Tryz.prog 109 #[.int .i32 (wrap32 (c.toNat : Int))] w fun e w' => e = .returned (.tuple #[.int .i64 (hexV c : Nat), .bool (hexB c)]) ∧ w = w' := by
  rw [wrap_byte]
  have hl : Hid (hexB c = ((decide (48 ≤ c.toNat) && decide (c.toNat ≤ 57)) || (decide (97 ≤ c.toNat) && decide (c.toNat ≤ 102)) || (decide (65 ≤ c.toNat) && decide (c.toNat ≤ 70)))) := rfl
  have hv : Hid (hexV c = if 48 ≤ c.toNat ∧ c.toNat ≤ 57 then c.toNat - 48 else if 97 ≤ c.toNat ∧ c.toNat ≤ 102 then c.toNat - 87 else if 65 ≤ c.toNat ∧ c.toNat ≤ 70 then c.toNat - 55 else 0) := rfl
  have hlt : c.toNat < 256 := c.toNat_lt
  generalize hexB c = hb at *
  generalize hexV c = hx at *
  generalize c.toNat = n at *
  have HD := Lib.hid (digit_int n w)
  by_cases h1 : 48 ≤ n ∧ n ≤ 57
  · obtain ⟨h1a, h1b⟩ := h1
    rw [show (decide (48 ≤ n) && decide (n ≤ 57)) = true by simp; omega] at HD
    go_enter Tryz.func109, Tryz.ntmps109
    go_wp2_with fail
    refine HD.out.mono ?_
    rintro e w' ⟨rfl, rfl⟩
    go_wp2_with fail
    go_ret2
    refine ⟨ret_ib ?_ ?_, rfl⟩
    · rw [hv.out, if_pos ⟨h1a, h1b⟩]; omega
    · rw [hl.out, show (decide (48 ≤ n) && decide (n ≤ 57)) = true by simp; omega]; rfl
  · rw [show (decide (48 ≤ n) && decide (n ≤ 57)) = false by simp; omega] at HD
    have hv2 : Hid (hx = if 97 ≤ n ∧ n ≤ 102 then n - 87 else if 65 ≤ n ∧ n ≤ 70 then n - 55 else 0) := by show _ = _; rw [hv.out, if_neg h1]
    have hl2 : Hid (hb = ((decide (97 ≤ n) && decide (n ≤ 102)) || (decide (65 ≤ n) && decide (n ≤ 70)))) := by show _ = _; rw [hl.out, show (decide (48 ≤ n) && decide (n ≤ 57)) = false by simp; omega]; rfl
    clear hv hl h1
    go_enter Tryz.func109, Tryz.ntmps109
    go_wp2_with fail
    refine HD.out.mono ?_
    rintro e w' ⟨rfl, rfl⟩
    go_wp2_with fail
    all_goals
      go_ret2
      refine ⟨ret_ib ?_ ?_, rfl⟩
      · rw [hv2.out]; (repeat' split) <;> omega
      · rw [hl2.out, Bool.eq_iff_iff]; simp only [Bool.or_eq_true, Bool.and_eq_true, decide_eq_true_eq, Bool.false_eq_true, true_iff, false_iff]; omega
end Go.Proofs.YtdjeajbinpgpiaaGreat

namespace Go.Proofs.YtdjeajbinpgpiaaGreat
open Go.RowKit

theorem wrap_small32 (n : Nat) (h : n ≤ 1114112) : wrap32 (n : Int) = n := by unfold wrap32; omega
theorem elder_blk (w1 : World) : Blk (w1.alloc (.cells elderV 117)) w1.heap.size 117 elderV (0, 0) := Blk.new _ _ _ _
theorem S_utfN (n : Nat) : S (utfN n) = Utf8.encode (n : Int) := S_B _
theorem numberS_bad {n : Nat} (h : numberB n = true) : numberS n = badL := by unfold numberS; rw [if_pos h]
theorem numberS_good {n : Nat} (h : numberB n = false) : numberS n = if elderN n = 0 then utfN n else utfN (elderN n) := by unfold numberS; rw [if_neg (by rw [h]; decide)]
theorem S_badL : S badL = ⟨#[239, 191, 189]⟩ := rfl

set_option maxHeartbeats 1000000 in
set_option maxRecDepth 100000 in
theorem number_bad (n : Nat) (h : n = 0 ∨ 1114111 < n ∨ (55296 ≤ n ∧ n ≤ 57343)) (hn : n ≤ 1114112) (w : World) :
    Calls Tryz.prog 110 #[.int .i64 (n : Int)] w fun e w' => e = .returned (.string (S (numberS n))) ∧ Below w.heap.size w w' := by
  have hb : numberB n = true := by
    unfold numberB
    rcases h with h | h | ⟨h, h'⟩ <;> simp [h]
    right; exact h'
  rw [numberS_bad hb, S_badL]
  clear hb
  rcases h with rfl | h | ⟨h, h'⟩
  all_goals
    go_enter Tryz.func110, Tryz.ntmps110
    go_wp2_with fail
    go_ret
    exact ⟨rfl, Below.refl _ _⟩
set_option maxHeartbeats 4000000 in
set_option maxRecDepth 100000 in
theorem number_plain (n : Nat) (m : Int) (hm : m = n) (h0 : 0 < m) (h1 : m ≤ 1114111) (h2 : m < 128 ∨ (159 < m ∧ m < 55296) ∨ 57343 < m) (w : World) :
    Calls Tryz.prog 110 #[.int .i64 m] w fun e w' => e = .returned (.string (S (numberS n))) ∧ Below w.heap.size w w' := by
  have hb : numberB n = false := by unfold numberB; simp; omega
  rw [numberS_good hb, show elderN n = 0 by unfold elderN; rw [if_neg (by omega)], if_pos rfl, S_utfN, ← hm]
  clear hb
  have hw : wrap32 m = m := by unfold wrap32; omega
  have t1 : decide (1114111 < m) = false := by simp; omega
  have t2 : decide (m ≤ 0) = false := by simp; omega
  clear hm
  rcases h2 with h2 | ⟨h2, h3⟩ | h2
  all_goals
    go_enter Tryz.func110, Tryz.ntmps110
    go_wp2_with fail
    refine (elder_any _).mono ?_
    rintro e w1 ⟨rfl, b1⟩
    have HB := Lib.hid (b1.alloc b1.size (.cells elderV 117))
    clear b1
    go_wp2_with (refine wpList_store_row (o := ⟨_, .store 117 _ _, _, _, _, _⟩) rfl _ _ _ rfl _ elderV (by rfl) (by rfl) _ _ (heap_alloc_last w1 _) (by kernel_rfl) (by kernel_rfl) (by kernel_rfl) ?_; rw [World.setRow_alloc_new])
    go_ret
    exact ⟨rfl, HB.out⟩
set_option maxHeartbeats 1000000 in
set_option maxRecDepth 100000 in
theorem number_elder (k : Nat) (hk : k < 32) (m : Int) (h1 : 128 ≤ m) (_h2 : m ≤ 159) (hm : m - 128 = (k : Int)) (w : World) :
    Calls Tryz.prog 110 #[.int .i64 m] w fun e w' => e = .returned (.string (S (numberS (k + 128)))) ∧ Below w.heap.size w w' := by
  have hb : numberB (k + 128) = false := by unfold numberB; simp; omega
  have he : elderN (k + 128) = elderT.getD k 0 := by unfold elderN; rw [if_pos (by omega)]; rfl
  rw [numberS_good hb, he]
  have hw : wrap32 m = m := by unfold wrap32; omega
  have HE := Lib.hid (elderV_at k hk)
  generalize elderT.getD k 0 = x at *
  clear hb he
  by_cases hx : x = 0
  · rw [if_pos hx, S_utfN, show ((k + 128 : Nat) : Int) = m by omega]
    have d0 : ((x : Int) != 0) = false := by rw [hx]; rfl
    clear hx
    go_enter Tryz.func110, Tryz.ntmps110
    go_wp2_with fail
    refine (elder_any _).mono ?_
    rintro e w1 ⟨rfl, b1⟩
    have HB := Lib.hid (b1.alloc b1.size (.cells elderV 117))
    have c0 := ((elder_blk w1).cell k).trans HE.out
    clear b1
    go_wp2_with (refine wpList_store_row (o := ⟨_, .store 117 _ _, _, _, _, _⟩) rfl _ _ _ rfl _ elderV (by rfl) (by rfl) _ _ (heap_alloc_last w1 _) (by kernel_rfl) (by kernel_rfl) (by kernel_rfl) ?_; rw [World.setRow_alloc_new])
    go_ret
    exact ⟨rfl, HB.out⟩
  · rw [if_neg hx, S_utfN]
    have d0 : ((x : Int) != 0) = true := by rw [bne_iff_ne]; omega
    clear hx
    go_enter Tryz.func110, Tryz.ntmps110
    go_wp2_with fail
    refine (elder_any _).mono ?_
    rintro e w1 ⟨rfl, b1⟩
    have HB := Lib.hid (b1.alloc b1.size (.cells elderV 117))
    have c0 := ((elder_blk w1).cell k).trans HE.out
    clear b1
    go_wp2_with (refine wpList_store_row (o := ⟨_, .store 117 _ _, _, _, _, _⟩) rfl _ _ _ rfl _ elderV (by rfl) (by rfl) _ _ (heap_alloc_last w1 _) (by kernel_rfl) (by kernel_rfl) (by kernel_rfl) ?_; rw [World.setRow_alloc_new])
    go_ret
    exact ⟨rfl, HB.out⟩
theorem number_any (n : Nat) (hn : n ≤ 1114112) (w : World) :
    Calls Tryz.prog 110 #[.int .i64 (n : Int)] w fun e w' => e = .returned (.string (S (numberS n))) ∧ Below w.heap.size w w' := by
  by_cases h : n = 0 ∨ 1114111 < n ∨ (55296 ≤ n ∧ n ≤ 57343)
  · exact number_bad n h hn w
  · by_cases h2 : 128 ≤ n ∧ n ≤ 159
    · obtain ⟨k, rfl⟩ : ∃ k, n = k + 128 := ⟨n - 128, by omega⟩
      exact number_elder k (by omega) _ (by omega) (by omega) (by omega) w
    · exact number_plain n _ rfl (by omega) (by omega) (by omega) w
end Go.Proofs.YtdjeajbinpgpiaaGreat
