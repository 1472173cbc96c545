/- token.tagName, token.listed, token.plain, token.Right: yes, of a tag that was told. -/
import Derived.Test.YtjghkiphfpeocaaRightT
import Derived.Test.YtjghkiphfpeocaaPl
namespace Go.Proofs.Ytjghkiphfpeocaa
open Go.RowKit

theorem lowL_ok {l : List UInt8} (h : ∀ c ∈ l, okB c) : lowL l = l := by
  unfold lowL
  conv => rhs; rw [← List.map_id l]
  exact List.map_congr_left fun c hc => (h c hc).1
theorem lacks (s : ByteArray) (c : UInt8) (h : ∀ x ∈ B s, x ≠ c) : decide (0 ≤ Lib.indexByte s.data.toList c) = false := by
  refine decide_eq_false ?_
  have : Lib.indexByte (B s) c < 0 := (indexByte_neg (B s) c).2 (by
    cases hb : hasB (B s) c with
    | false => rfl
    | true => exact absurd rfl (h c ((hasB_iff _ _).1 hb)))
  show ¬ 0 ≤ Lib.indexByte (B s) c
  omega
theorem below_tokR (w : World) (cs : Array Value) : Below w.heap.size w (w.alloc (.cells cs 34)) := (Below.refl _ _).alloc (Nat.le_refl _) _
set_option maxHeartbeats 2000000 in
theorem tagName_yes (s : ByteArray) (w : World) (hs : s.size ≤ 65536) (hn : NameOk (B s)) :
    Calls Try.prog 41 #[.string s] w fun e w' => e = .returned (.bool true) ∧ Below w.heap.size w w' := by
  obtain ⟨c0, hc0, hp0⟩ := any_at hn.1
  have h0 : 0 < s.size := by rw [size_B]; exact lt_of_at hc0
  have e0 : (s.toList == []) = false := by
    rw [toList_B]
    cases hb : B s with
    | nil => rw [size_B, hb] at h0; simp at h0
    | cons a b => rfl
  have e1 : s.toList.isEmpty = false := by
    rw [toList_B]
    cases hb : B s with
    | nil => rw [size_B, hb] at h0; simp at h0
    | cons a b => rfl
  have ec : s[0]'h0 = c0 := by
    rw [B_at s 0 h0] at hc0
    exact Option.some.inj hc0
  have t1 : (s.toList == s.toList) = true := beq_self_eq_true _
  have HL := Lib.hid (fun w => letter_rune (s[0]'h0) w)
  rw [ec, hp0] at HL
  have HS := Lib.hid (fun w => split_one s w hs h0 (fun c hc => (hn.2 c hc).2.1))
  have HW := Lib.hid (fun w => lower_any s w (by omega))
  rw [lowL_ok hn.2, S_B] at HW
  have HA := Lib.hid (fun w => Try.strings_Contains_one s 47 w)
  rw [lacks s 47 fun x hx => (hn.2 x hx).2.2.1] at HA
  have HB := Lib.hid (fun w => Try.strings_Contains_one s 62 w)
  rw [lacks s 62 fun x hx => (hn.2 x hx).2.2.2] at HB
  clear hn hc0 hp0
  go_enter Try.func41, Try.ntmps41
  go_wp2_with fail
  refine (HL.out _).mono ?_
  rintro e w1 ⟨rfl, rfl⟩
  go_wp2_with fail
  refine (HA.out _).mono ?_
  rintro e w1 ⟨rfl, rfl⟩
  go_wp2_with fail
  refine (HB.out _).mono ?_
  rintro e w1 ⟨rfl, rfl⟩
  go_wp2_with fail
  refine (HS.out _).mono ?_
  rintro e w1 ⟨A, c, rfl, b1⟩
  have HB1 := Lib.hid b1
  clear b1
  go_wp2_with fail
  refine (HW.out _).mono ?_
  rintro e w2 ⟨rfl, b2⟩
  have HB2 := Lib.hid (below_then HB1.out HB1.out.size b2)
  clear b2
  go_wp2_with fail
  go_ret
  exact ⟨rfl, HB2.out⟩
set_option maxHeartbeats 2000000 in
theorem tagName_cap (s : ByteArray) (w : World) (hs : s.size ≤ 65536) (hf : ((B s)[0]?).any letterB = true) (hc : ∀ c ∈ B s, spaceB c = false ∧ c ≠ 47 ∧ c ≠ 62) (hlw : ((S (lowL (B s))).toList == s.toList) = false) :
    Calls Try.prog 41 #[.string s] w fun e w' => e = .returned (.bool false) ∧ Below w.heap.size w w' := by
  obtain ⟨c0, hc0, hp0⟩ := any_at hf
  have h0 : 0 < s.size := by rw [size_B]; exact lt_of_at hc0
  have e0 : (s.toList == []) = false := by
    rw [toList_B]
    cases hb : B s with
    | nil => rw [size_B, hb] at h0; simp at h0
    | cons a b => rfl
  have e1 : s.toList.isEmpty = false := by
    rw [toList_B]
    cases hb : B s with
    | nil => rw [size_B, hb] at h0; simp at h0
    | cons a b => rfl
  have ec : s[0]'h0 = c0 := by
    rw [B_at s 0 h0] at hc0
    exact Option.some.inj hc0
  have HL := Lib.hid (fun w => letter_rune (s[0]'h0) w)
  rw [ec, hp0] at HL
  have HS := Lib.hid (fun w => split_one s w hs h0 (fun c hm => (hc c hm).1))
  have HW := Lib.hid (fun w => lower_any s w (by omega))
  have HA := Lib.hid (fun w => Try.strings_Contains_one s 47 w)
  rw [lacks s 47 fun x hx => (hc x hx).2.1] at HA
  have HB := Lib.hid (fun w => Try.strings_Contains_one s 62 w)
  rw [lacks s 62 fun x hx => (hc x hx).2.2] at HB
  clear hc hc0 hp0
  go_enter Try.func41, Try.ntmps41
  go_wp2_with fail
  refine (HL.out _).mono ?_
  rintro e w1 ⟨rfl, rfl⟩
  go_wp2_with fail
  refine (HA.out _).mono ?_
  rintro e w1 ⟨rfl, rfl⟩
  go_wp2_with fail
  refine (HB.out _).mono ?_
  rintro e w1 ⟨rfl, rfl⟩
  go_wp2_with fail
  refine (HS.out _).mono ?_
  rintro e w1 ⟨A, c, rfl, b1⟩
  have HB1 := Lib.hid b1
  clear b1
  go_wp2_with fail
  refine (HW.out _).mono ?_
  rintro e w2 ⟨rfl, b2⟩
  have HB2 := Lib.hid (below_then HB1.out HB1.out.size b2)
  clear b2
  go_wp2_with fail
  go_ret
  exact ⟨rfl, HB2.out⟩
set_option maxHeartbeats 2000000 in
theorem get_none (w : World) (A : Option Addr) (n c : Nat) (l : List At) (s : ByteArray) (h : RdA w A n l) (hb : n ≤ 9223372036854775807) (hn : l.any (nameP s) = false) :
    Calls Try.prog 69 #[.slice A n c, .string s] w fun e w' => e = .returned (.tuple #[.string ⟨#[]⟩, .bool false]) ∧ Below w.heap.size w w' := by
  have H := Lib.hid (find_at w A n c l s h hb)
  rw [findA_none hn] at H
  clear h hn
  go_enter Try.func69, Try.ntmps69
  go_wp2_with fail
  refine H.out.mono ?_
  rintro e w1 ⟨rfl, b1⟩
  have HB1 := Lib.hid b1
  clear b1
  go_wp2_with fail
  go_ret2
  exact ⟨rfl, HB1.out⟩
set_option maxHeartbeats 2000000 in
theorem listed_yes (w : World) (A : Option Addr) (n c : Nat) (l : List At) (h : RdA w A n l) (hb : n ≤ 70000) (hl : Listed l) :
    Calls Try.prog 42 #[.slice A n c] w fun e w' => e = .returned (.bool true) ∧ Below w.heap.size w w' := by
  have H := Lib.hid (get_none w A n c l ⟨#[]⟩ h (by omega) (no_empty hl))
  have HU := Lib.hid (fun (w1 : World) (b1 : Below w.heap.size w w1) => unique_at w1 A n c l (h.keep b1) (by omega))
  have en : l.length = n := h.1.symm
  rw [uniq_all hl.1] at HU
  have t1 : ((n : Int) == (n : Int)) = true := beq_self_eq_true _
  clear h hl
  go_enter Try.func42, Try.ntmps42
  go_wp2_with fail
  refine H.out.mono ?_
  rintro e w1 ⟨rfl, b1⟩
  have HB1 := Lib.hid b1
  clear b1
  go_wp2_with fail
  refine (HU.out _ HB1.out).mono ?_
  rintro e w2 ⟨v, rfl, hr, b2⟩
  obtain ⟨A2, c2, rfl, _⟩ := hr.read
  rw [en]
  have HB2 := Lib.hid (below_then HB1.out HB1.out.size b2)
  clear b2 hr
  go_wp2_with fail
  go_ret
  exact ⟨rfl, HB2.out⟩
set_option maxHeartbeats 2000000 in
theorem plain_two (w : World) (v0 v1 v2 v3 : Value) :
    Calls Try.prog 39 #[.agg #[v0, v1, v2, v3, .string ⟨#[]⟩], .bool true, .bool true, .bool false] w fun e w' => e = .returned (.bool true) ∧ Below w.heap.size w w' := by
  have HB0 := Lib.hid (below_tokR w #[v0, v1, v2, v3, .string ⟨#[]⟩])
  have hc := Blk.new w 34 #[v0, v1, v2, v3, .string ⟨#[]⟩] (0, 0)
  have k4 := hc.cell 4
  clear hc
  go_enter Try.func39, Try.ntmps39
  go_wp2_with fail
  go_ret
  exact ⟨rfl, HB0.out⟩
set_option maxHeartbeats 2000000 in
theorem plain_three (w : World) (v0 v1 : Value) (A : Option Addr) (c : Nat) :
    Calls Try.prog 39 #[.agg #[v0, v1, .slice A 0 c, .bool false, .string ⟨#[]⟩], .bool true, .bool false, .bool false] w fun e w' => e = .returned (.bool true) ∧ Below w.heap.size w w' := by
  have HB0 := Lib.hid (below_tokR w #[v0, v1, .slice A 0 c, .bool false, .string ⟨#[]⟩])
  have hc := Blk.new w 34 #[v0, v1, .slice A 0 c, .bool false, .string ⟨#[]⟩] (0, 0)
  have k4 := hc.cell 4
  have k3 := hc.cell 3
  have k2 := hc.cell 2
  clear hc
  go_enter Try.func39, Try.ntmps39
  go_wp2_with fail
  go_ret
  exact ⟨rfl, HB0.out⟩
set_option maxHeartbeats 4000000 in
theorem right_two (w : World) (s : ByteArray) (A : Option Addr) (n c : Nat) (l : List At) (sf : Bool) (hs : s.size ≤ 65536) (hn : NameOk (B s)) (h : RdA w A n l) (hb : n ≤ 70000) (hl : Listed l) :
    Calls Try.prog 23 #[.agg #[.int .i64 2, .string s, .slice A n c, .bool sf, .string ⟨#[]⟩]] w fun e w' => e = .returned (.bool true) ∧ Below w.heap.size w w' := by
  have HB0 := Lib.hid (below_tokR w #[.int .i64 2, .string s, .slice A n c, .bool sf, .string ⟨#[]⟩])
  have HC := Lib.hid (Blk.new w 34 #[.int .i64 2, .string s, .slice A n c, .bool sf, .string ⟨#[]⟩] (0, 0))
  have HP := Lib.hid (fun w => plain_two w (.int .i64 2) (.string s) (.slice A n c) (.bool sf))
  have HN := Lib.hid (fun w => tagName_yes s w hs hn)
  have HL := Lib.hid (fun (w1 : World) (b1 : Below w.heap.size w w1) => listed_yes w1 A n c l (h.keep b1) hb hl)
  have k0 := HC.out.cell 0
  have k1 := HC.out.cell 1
  have k2 := HC.out.cell 2
  have k3 := HC.out.cell 3
  have k4 := HC.out.cell 4
  clear h hn hl
  go_enter Try.func23, Try.ntmps23
  go_wp2_with fail
  refine (HP.out _).mono ?_
  rintro e w1 ⟨rfl, b1⟩
  have HC1 := Lib.hid (HC.out.keep b1)
  have HB1 := Lib.hid (below_then HB0.out HB0.out.size b1)
  have m1 := HC1.out.cell 1
  have m2 := HC1.out.cell 2
  clear b1 k0 k1 k2 k3 k4
  go_wp2_with fail
  refine (HN.out _).mono ?_
  rintro e w2 ⟨rfl, b2⟩
  have HC2 := Lib.hid (HC1.out.keep b2)
  have HB2 := Lib.hid (below_then HB1.out HB1.out.size b2)
  clear b2 m1 m2
  have m3 := HC2.out.cell 2
  go_wp2_with fail
  refine (HL.out _ HB2.out).mono ?_
  rintro e w3 ⟨rfl, b3⟩
  have HB3 := Lib.hid (below_then HB2.out HB2.out.size b3)
  clear b3
  go_wp2_with fail
  go_ret
  exact ⟨rfl, HB3.out⟩
set_option maxHeartbeats 4000000 in
theorem right_three (w : World) (s : ByteArray) (A : Option Addr) (c : Nat) (hs : s.size ≤ 65536) (hn : NameOk (B s)) :
    Calls Try.prog 23 #[.agg #[.int .i64 3, .string s, .slice A 0 c, .bool false, .string ⟨#[]⟩]] w fun e w' => e = .returned (.bool true) ∧ Below w.heap.size w w' := by
  have HB0 := Lib.hid (below_tokR w #[.int .i64 3, .string s, .slice A 0 c, .bool false, .string ⟨#[]⟩])
  have HC := Lib.hid (Blk.new w 34 #[.int .i64 3, .string s, .slice A 0 c, .bool false, .string ⟨#[]⟩] (0, 0))
  have HP := Lib.hid (fun w => plain_three w (.int .i64 3) (.string s) A c)
  have HN := Lib.hid (fun w => tagName_yes s w hs hn)
  have k0 := HC.out.cell 0
  have k1 := HC.out.cell 1
  have k2 := HC.out.cell 2
  have k3 := HC.out.cell 3
  have k4 := HC.out.cell 4
  clear hn
  go_enter Try.func23, Try.ntmps23
  go_wp2_with fail
  refine (HP.out _).mono ?_
  rintro e w1 ⟨rfl, b1⟩
  have HC1 := Lib.hid (HC.out.keep b1)
  have HB1 := Lib.hid (below_then HB0.out HB0.out.size b1)
  have m1 := HC1.out.cell 1
  clear b1 k0 k1 k2 k3 k4
  go_wp2_with fail
  refine (HN.out _).mono ?_
  rintro e w2 ⟨rfl, b2⟩
  have HB2 := Lib.hid (below_then HB1.out HB1.out.size b2)
  clear b2
  go_wp2_with fail
  go_ret
  exact ⟨rfl, HB2.out⟩
end Go.Proofs.Ytjghkiphfpeocaa
