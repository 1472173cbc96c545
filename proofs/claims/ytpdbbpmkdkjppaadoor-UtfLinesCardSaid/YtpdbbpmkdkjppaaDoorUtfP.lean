/- utf's span and one: what bytes begin with. -/
import Derived.Test.YtpdbbpmkdkjppaaDoorUtfM
import Derived.Test.YtpdbbpmkdkjppaaDoorUtfY
namespace Go.Proofs.YtpdbbpmkdkjppaaDoor
open Go.RowKit

def spanU (c : Nat) : Nat × Nat × Nat := if c < 128 then (1, 0, 0) else match leadU c with
  | none => (0, 0, 0)
  | some (k, lo, hi) => (k + 1, lo, hi)
theorem spanU_eq (c : Nat) : spanU c = if c < 128 then (1, 0, 0) else if 194 ≤ c ∧ c ≤ 223 then (2, 128, 191) else if c = 224 then (3, 160, 191) else if c = 237 then (3, 128, 159) else if 225 ≤ c ∧ c ≤ 239 then (3, 128, 191) else if c = 240 then (4, 144, 191) else if c = 244 then (4, 128, 143) else if 241 ≤ c ∧ c ≤ 243 then (4, 128, 191) else (0, 0, 0) := by
  unfold spanU leadU
  by_cases h1 : c < 128
  · rw [if_pos h1, if_pos h1]
  rw [if_neg h1, if_neg h1]
  by_cases h2 : 194 ≤ c ∧ c ≤ 223
  · rw [if_pos h2, if_pos h2]
  rw [if_neg h2, if_neg h2]
  by_cases h3 : c = 224
  · rw [if_pos h3, if_pos h3]
  rw [if_neg h3, if_neg h3]
  by_cases h4 : c = 237
  · rw [if_pos h4, if_pos h4]
  rw [if_neg h4, if_neg h4]
  by_cases h5 : 225 ≤ c ∧ c ≤ 239
  · rw [if_pos h5, if_pos h5]
  rw [if_neg h5, if_neg h5]
  by_cases h6 : c = 240
  · rw [if_pos h6, if_pos h6]
  rw [if_neg h6, if_neg h6]
  by_cases h7 : c = 244
  · rw [if_pos h7, if_pos h7]
  rw [if_neg h7, if_neg h7]
  by_cases h8 : 241 ≤ c ∧ c ≤ 243
  · rw [if_pos h8, if_pos h8]
  rw [if_neg h8, if_neg h8]
theorem ret_iuu {a a' b b' c c' : Int} (h1 : a = a') (h2 : b = b') (h3 : c = c') : Ending.returned (.tuple #[.int .i64 a, .int .u8 b, .int .u8 c]) = .returned (.tuple #[.int .i64 a', .int .u8 b', .int .u8 c']) := by rw [h1, h2, h3]
theorem ret_ri {a a' b b' : Int} (h1 : a = a') (h2 : b = b') : Ending.returned (.tuple #[.int .i32 a, .int .i64 b]) = .returned (.tuple #[.int .i32 a', .int .i64 b']) := by rw [h1, h2]

set_option maxHeartbeats 4000000 in
set_option maxRecDepth 100000 in
theorem span_any (w : World) (c : Nat) (hc : c < 256) :
    Calls Tryd.prog 31 #[.int .u8 c] w fun e w' => e = .returned (.tuple #[.int .i64 (spanU c).1, .int .u8 (spanU c).2.1, .int .u8 (spanU c).2.2]) ∧ w = w' := by
  have hs := spanU_eq c
  rcases (by omega : (c < 128) ∨ (128 ≤ c ∧ c < 194) ∨ (194 ≤ c ∧ c ≤ 223) ∨ (c = 224) ∨ (225 ≤ c ∧ c ≤ 236) ∨ (c = 237) ∨ (238 ≤ c ∧ c ≤ 239) ∨ (c = 240) ∨ (241 ≤ c ∧ c ≤ 243) ∨ (c = 244) ∨ (245 ≤ c)) with h | h | h | h | h | h | h | h | h | h | h
  · have e : spanU c = (1, 0, 0) := by rw [hs, if_pos (by omega)]
    rw [e]
    clear hs e
    have d0 : decide (c < 128) = true := decide_eq_true (by omega)
    have d1 : decide (194 ≤ c) = false := decide_eq_false (by omega)
    have d2 : decide (c ≤ 223) = true := decide_eq_true (by omega)
    have d3 : decide (c = 224) = false := decide_eq_false (by omega)
    have n3 : ¬ c = 224 := by omega
    have d4 : decide (c = 237) = false := decide_eq_false (by omega)
    have n4 : ¬ c = 237 := by omega
    have d5 : decide (225 ≤ c) = false := decide_eq_false (by omega)
    have d6 : decide (c ≤ 239) = true := decide_eq_true (by omega)
    have d7 : decide (c = 240) = false := decide_eq_false (by omega)
    have n7 : ¬ c = 240 := by omega
    have d8 : decide (c = 244) = false := decide_eq_false (by omega)
    have n8 : ¬ c = 244 := by omega
    have d9 : decide (241 ≤ c) = false := decide_eq_false (by omega)
    have d10 : decide (c ≤ 243) = true := decide_eq_true (by omega)
    go_enter Tryd.func31, Tryd.ntmps31
    go_wp2_with fail
    go_ret3
    exact ⟨rfl, rfl⟩
  · have e : spanU c = (0, 0, 0) := by rw [hs, if_neg (by omega), if_neg (by omega), if_neg (by omega), if_neg (by omega), if_neg (by omega), if_neg (by omega), if_neg (by omega), if_neg (by omega)]
    rw [e]
    clear hs e
    have d0 : decide (c < 128) = false := decide_eq_false (by omega)
    have d1 : decide (194 ≤ c) = false := decide_eq_false (by omega)
    have d2 : decide (c ≤ 223) = true := decide_eq_true (by omega)
    have d3 : decide (c = 224) = false := decide_eq_false (by omega)
    have n3 : ¬ c = 224 := by omega
    have d4 : decide (c = 237) = false := decide_eq_false (by omega)
    have n4 : ¬ c = 237 := by omega
    have d5 : decide (225 ≤ c) = false := decide_eq_false (by omega)
    have d6 : decide (c ≤ 239) = true := decide_eq_true (by omega)
    have d7 : decide (c = 240) = false := decide_eq_false (by omega)
    have n7 : ¬ c = 240 := by omega
    have d8 : decide (c = 244) = false := decide_eq_false (by omega)
    have n8 : ¬ c = 244 := by omega
    have d9 : decide (241 ≤ c) = false := decide_eq_false (by omega)
    have d10 : decide (c ≤ 243) = true := decide_eq_true (by omega)
    go_enter Tryd.func31, Tryd.ntmps31
    go_wp2_with fail
    go_ret3
    exact ⟨rfl, rfl⟩
  · have e : spanU c = (2, 128, 191) := by rw [hs, if_neg (by omega), if_pos (by omega)]
    rw [e]
    clear hs e
    have d0 : decide (c < 128) = false := decide_eq_false (by omega)
    have d1 : decide (194 ≤ c) = true := decide_eq_true (by omega)
    have d2 : decide (c ≤ 223) = true := decide_eq_true (by omega)
    have d3 : decide (c = 224) = false := decide_eq_false (by omega)
    have n3 : ¬ c = 224 := by omega
    have d4 : decide (c = 237) = false := decide_eq_false (by omega)
    have n4 : ¬ c = 237 := by omega
    have d5 : decide (225 ≤ c) = false := decide_eq_false (by omega)
    have d6 : decide (c ≤ 239) = true := decide_eq_true (by omega)
    have d7 : decide (c = 240) = false := decide_eq_false (by omega)
    have n7 : ¬ c = 240 := by omega
    have d8 : decide (c = 244) = false := decide_eq_false (by omega)
    have n8 : ¬ c = 244 := by omega
    have d9 : decide (241 ≤ c) = false := decide_eq_false (by omega)
    have d10 : decide (c ≤ 243) = true := decide_eq_true (by omega)
    go_enter Tryd.func31, Tryd.ntmps31
    go_wp2_with fail
    go_ret3
    exact ⟨rfl, rfl⟩
  · subst h
    have e : spanU 224 = (3, 160, 191) := rfl
    rw [e]
    clear hs e hc
    go_enter Tryd.func31, Tryd.ntmps31
    go_wp2_with fail
    go_ret3
    exact ⟨rfl, rfl⟩
  · have e : spanU c = (3, 128, 191) := by rw [hs, if_neg (by omega), if_neg (by omega), if_neg (by omega), if_neg (by omega), if_pos (by omega)]
    rw [e]
    clear hs e
    have d0 : decide (c < 128) = false := decide_eq_false (by omega)
    have d1 : decide (194 ≤ c) = true := decide_eq_true (by omega)
    have d2 : decide (c ≤ 223) = false := decide_eq_false (by omega)
    have d3 : decide (c = 224) = false := decide_eq_false (by omega)
    have n3 : ¬ c = 224 := by omega
    have d4 : decide (c = 237) = false := decide_eq_false (by omega)
    have n4 : ¬ c = 237 := by omega
    have d5 : decide (225 ≤ c) = true := decide_eq_true (by omega)
    have d6 : decide (c ≤ 239) = true := decide_eq_true (by omega)
    have d7 : decide (c = 240) = false := decide_eq_false (by omega)
    have n7 : ¬ c = 240 := by omega
    have d8 : decide (c = 244) = false := decide_eq_false (by omega)
    have n8 : ¬ c = 244 := by omega
    have d9 : decide (241 ≤ c) = false := decide_eq_false (by omega)
    have d10 : decide (c ≤ 243) = true := decide_eq_true (by omega)
    go_enter Tryd.func31, Tryd.ntmps31
    go_wp2_with fail
    go_ret3
    exact ⟨rfl, rfl⟩
  · subst h
    have e : spanU 237 = (3, 128, 159) := rfl
    rw [e]
    clear hs e hc
    go_enter Tryd.func31, Tryd.ntmps31
    go_wp2_with fail
    go_ret3
    exact ⟨rfl, rfl⟩
  · have e : spanU c = (3, 128, 191) := by rw [hs, if_neg (by omega), if_neg (by omega), if_neg (by omega), if_neg (by omega), if_pos (by omega)]
    rw [e]
    clear hs e
    have d0 : decide (c < 128) = false := decide_eq_false (by omega)
    have d1 : decide (194 ≤ c) = true := decide_eq_true (by omega)
    have d2 : decide (c ≤ 223) = false := decide_eq_false (by omega)
    have d3 : decide (c = 224) = false := decide_eq_false (by omega)
    have n3 : ¬ c = 224 := by omega
    have d4 : decide (c = 237) = false := decide_eq_false (by omega)
    have n4 : ¬ c = 237 := by omega
    have d5 : decide (225 ≤ c) = true := decide_eq_true (by omega)
    have d6 : decide (c ≤ 239) = true := decide_eq_true (by omega)
    have d7 : decide (c = 240) = false := decide_eq_false (by omega)
    have n7 : ¬ c = 240 := by omega
    have d8 : decide (c = 244) = false := decide_eq_false (by omega)
    have n8 : ¬ c = 244 := by omega
    have d9 : decide (241 ≤ c) = false := decide_eq_false (by omega)
    have d10 : decide (c ≤ 243) = true := decide_eq_true (by omega)
    go_enter Tryd.func31, Tryd.ntmps31
    go_wp2_with fail
    go_ret3
    exact ⟨rfl, rfl⟩
  · subst h
    have e : spanU 240 = (4, 144, 191) := rfl
    rw [e]
    clear hs e hc
    go_enter Tryd.func31, Tryd.ntmps31
    go_wp2_with fail
    go_ret3
    exact ⟨rfl, rfl⟩
  · have e : spanU c = (4, 128, 191) := by rw [hs, if_neg (by omega), if_neg (by omega), if_neg (by omega), if_neg (by omega), if_neg (by omega), if_neg (by omega), if_neg (by omega), if_pos (by omega)]
    rw [e]
    clear hs e
    have d0 : decide (c < 128) = false := decide_eq_false (by omega)
    have d1 : decide (194 ≤ c) = true := decide_eq_true (by omega)
    have d2 : decide (c ≤ 223) = false := decide_eq_false (by omega)
    have d3 : decide (c = 224) = false := decide_eq_false (by omega)
    have n3 : ¬ c = 224 := by omega
    have d4 : decide (c = 237) = false := decide_eq_false (by omega)
    have n4 : ¬ c = 237 := by omega
    have d5 : decide (225 ≤ c) = true := decide_eq_true (by omega)
    have d6 : decide (c ≤ 239) = false := decide_eq_false (by omega)
    have d7 : decide (c = 240) = false := decide_eq_false (by omega)
    have n7 : ¬ c = 240 := by omega
    have d8 : decide (c = 244) = false := decide_eq_false (by omega)
    have n8 : ¬ c = 244 := by omega
    have d9 : decide (241 ≤ c) = true := decide_eq_true (by omega)
    have d10 : decide (c ≤ 243) = true := decide_eq_true (by omega)
    go_enter Tryd.func31, Tryd.ntmps31
    go_wp2_with fail
    go_ret3
    exact ⟨rfl, rfl⟩
  · subst h
    have e : spanU 244 = (4, 128, 143) := rfl
    rw [e]
    clear hs e hc
    go_enter Tryd.func31, Tryd.ntmps31
    go_wp2_with fail
    go_ret3
    exact ⟨rfl, rfl⟩
  · have e : spanU c = (0, 0, 0) := by rw [hs, if_neg (by omega), if_neg (by omega), if_neg (by omega), if_neg (by omega), if_neg (by omega), if_neg (by omega), if_neg (by omega), if_neg (by omega)]
    rw [e]
    clear hs e
    have d0 : decide (c < 128) = false := decide_eq_false (by omega)
    have d1 : decide (194 ≤ c) = true := decide_eq_true (by omega)
    have d2 : decide (c ≤ 223) = false := decide_eq_false (by omega)
    have d3 : decide (c = 224) = false := decide_eq_false (by omega)
    have n3 : ¬ c = 224 := by omega
    have d4 : decide (c = 237) = false := decide_eq_false (by omega)
    have n4 : ¬ c = 237 := by omega
    have d5 : decide (225 ≤ c) = true := decide_eq_true (by omega)
    have d6 : decide (c ≤ 239) = false := decide_eq_false (by omega)
    have d7 : decide (c = 240) = false := decide_eq_false (by omega)
    have n7 : ¬ c = 240 := by omega
    have d8 : decide (c = 244) = false := decide_eq_false (by omega)
    have n8 : ¬ c = 244 := by omega
    have d9 : decide (241 ≤ c) = true := decide_eq_true (by omega)
    have d10 : decide (c ≤ 243) = false := decide_eq_false (by omega)
    go_enter Tryd.func31, Tryd.ntmps31
    go_wp2_with fail
    go_ret3
    exact ⟨rfl, rfl⟩

theorem wrapB (c : UInt8) : wrap32 (c.toNat : Int) = c.toNat := by
  have := c.toNat_lt
  unfold wrap32
  omega
set_option maxHeartbeats 2000000 in
theorem one_any (w : World) (A : Option Addr) (c : Nat) (l : List UInt8) (h : RdB w A c l) (h0 : 0 < l.length) (hT : Tabs w) :
    Calls Tryd.prog 25 #[.slice A l.length c] w fun e w' => e = .returned (.tuple #[.int .i32 (oneU l).1, .int .i64 (oneU l).2]) ∧ Below w.heap.size w w' := by
  obtain ⟨b, o, rfl, hc⟩ := h.cell h0
  have hcap := h.2.1
  have hmax : c ≤ 9223372036854775807 := h.2.2
  obtain ⟨x, t, rfl⟩ : ∃ x t, l = x :: t := by
    cases l with
    | nil => simp at h0
    | cons x t => exact ⟨x, t, rfl⟩
  have k0 : w.cell? ⟨b, o, none⟩ = some (.int .u8 x.toNat) := by simpa using hc 0 x rfl
  have HS := Lib.hid (span_any w x.toNat x.toNat_lt)
  have hxl := x.toNat_lt
  have HW := Lib.hid (wrapB x)
  have HC := Lib.hid hc
  have HT := Lib.hid hT
  clear hc hT
  by_cases h1 : x.toNat < 128
  · have e1 : oneU (x :: t) = (x.toNat, 1) := one_low h1
    have e2 : spanU x.toNat = (1, 0, 0) := by unfold spanU; rw [if_pos h1]
    rw [e2] at HS
    have HE := Lib.hid e1
    clear e1 e2
    generalize hn : (x :: t).length = n at *
    go_enter Tryd.func25, Tryd.ntmps25
    go_wp2_with (go_at_call 31; with_reducible refine HS.out.mono ?_; rintro e w' ⟨rfl, rfl⟩)
    go_ret2
    refine ⟨ret_ri ?_ ?_, Below.refl _ _⟩ <;> rw [HE.out] <;> first | rfl | exact HW.out
  cases hl : leadU x.toNat with
  | none =>
    have e1 : oneU (x :: t) = (65533, 1) := one_none h1 hl
    have e2 : spanU x.toNat = (0, 0, 0) := by unfold spanU; rw [if_neg h1, hl]
    rw [e2] at HS
    have HE := Lib.hid e1
    clear e1 e2 h1 hl
    generalize hn : (x :: t).length = n at *
    go_enter Tryd.func25, Tryd.ntmps25
    go_wp2_with (go_at_call 31; with_reducible refine HS.out.mono ?_; rintro e w' ⟨rfl, rfl⟩)
    go_ret2
    refine ⟨ret_ri ?_ ?_, Below.refl _ _⟩ <;> rw [HE.out] <;> rfl
  | some z =>
    obtain ⟨k, lo, hi⟩ := z
    have e1 := one_some (t := t) hl
    have e2 : spanU x.toNat = (k + 1, lo, hi) := by unfold spanU; rw [if_neg h1, hl]
    rw [e2] at HS
    have hk : 1 ≤ k ∧ k ≤ 3 := by have := lead_cases hl; omega
    obtain ⟨hk1, hk3⟩ := hk
    have HE := Lib.hid e1
    have HL := Lib.hid hl
    have HD := Lib.hid h
    have H1 := Lib.hid (one_cases x t)
    clear e1 e2 h1 hl h
    have hlen : Hid ((x :: t).length = t.length + 1) := by show _ = _; simp
    generalize hn : (x :: t).length = n at *
    obtain ⟨L, hL⟩ : ∃ L, x :: t = L := ⟨_, rfl⟩
    have HN := Lib.hid hn
    clear hn
    have s1 : decide (((k + 1 : Nat) : Int) ≤ 1) = false := decide_eq_false (by omega)
    have s2 : ¬ k + 1 ≤ 1 := by omega
    go_enter Tryd.func25, Tryd.ntmps25
    go_wp2_with (go_at_call 31; with_reducible refine HS.out.mono ?_; rintro e w' ⟨rfl, rfl⟩)
    go_loopw [5, 6, 7] (fun a1 a2 i wr => ∃ m lo' hi' r' : Nat, 1 ≤ m ∧ m ≤ k + 1 ∧ m ≤ n ∧ a1 = .int .u8 lo' ∧ a2 = .int .u8 hi' ∧ i = .int .i64 m ∧ w = wr ∧ oneU (x :: t) = tailU (k + 1 - m) lo' hi' r' m ((x :: t).drop m)) (fun _ _ i _ => k + 1 - (intOf i).toNat)
    case atStart => exact ⟨1, lo, hi, leadR x.toNat k, Nat.le_refl _, by omega, by omega, rfl, rfl, rfl, rfl, HE.out⟩
    case round =>
      obtain ⟨m, lo', hi', r', m1, m2, m3, rfl, rfl, rfl, rfl, he⟩ := hrel
      by_cases hlt : m < k + 1
      · have d0 : decide ((m : Int) < (k : Int) + 1) = true := decide_eq_true (by omega)
        have hkm : k + 1 - m = (k - m) + 1 := by omega
        have hkm2 : k - m = k + 1 - (m + 1) := by omega
        rw [hkm] at he
        by_cases hin : m < n
        · have hin' : m < (x :: t).length := by rw [HN.out]; exact hin
          obtain ⟨y, hy⟩ : ∃ y, (x :: t)[m]? = some y := ⟨_, List.getElem?_eq_getElem hin'⟩
          have hdr : (x :: t).drop m = y :: (x :: t).drop (m + 1) := by
            rw [List.drop_eq_getElem_cons hin']
            congr 1
            rw [List.getElem?_eq_getElem hin'] at hy
            exact Option.some.inj hy
          have k1 := HC.out m y hy
          have hyl := y.toNat_lt
          have t1 : decide ((n : Int) ≤ (m : Int)) = false := decide_eq_false (by omega)
          have t1' : decide (n ≤ m) = false := decide_eq_false (by omega)
          have s3 : IntKind.i64.wrap ((m : Int) + 1) = (m : Int) + 1 := IntWalk.i64_in _ (by omega)
          rw [hdr] at he
          by_cases hyr : lo' ≤ y.toNat ∧ y.toNat ≤ hi'
          · rw [tail_in hyr, hkm2] at he
            obtain ⟨y1, y2⟩ := hyr
            have t2 : decide (y.toNat < lo') = false := decide_eq_false (by omega)
            have t3 : decide (hi' < y.toNat) = false := decide_eq_false (by omega)
            have HM := Lib.hid he
            clear he hdr hkm hkm2 hin'
            go_wp2_with fail
            exact ⟨⟨m + 1, 128, 191, _, by omega, by omega, by omega, by first | exact True.intro | rfl, by first | exact True.intro | rfl, by go_num, by first | exact True.intro | rfl, HM.out⟩, by simp [intOf]; omega⟩
          · have HM := Lib.hid (he.trans (tail_out hyr))
            clear he hdr hkm hkm2 hin'
            rcases Nat.lt_or_ge y.toNat lo' with y1 | y1
            · have t2 : decide (y.toNat < lo') = true := decide_eq_true (by omega)
              go_wp2_with fail
              go_ret2
              refine ⟨ret_ri ?_ ?_, Below.refl _ _⟩ <;> rw [HM.out] <;> rfl
            · have t2 : decide (y.toNat < lo') = false := decide_eq_false (by omega)
              have t3 : decide (hi' < y.toNat) = true := decide_eq_true (by omega)
              go_wp2_with fail
              go_ret2
              refine ⟨ret_ri ?_ ?_, Below.refl _ _⟩ <;> rw [HM.out] <;> rfl
        · have hdr : (x :: t).drop m = [] := List.drop_eq_nil_of_le (by rw [HN.out]; omega)
          have t1 : decide ((n : Int) ≤ (m : Int)) = true := decide_eq_true (by omega)
          have t1' : decide (n ≤ m) = true := decide_eq_true (by omega)
          rw [hdr, tail_nil] at he
          have HM := Lib.hid he
          clear he hdr hkm hkm2
          go_wp2_with fail
          go_ret2
          refine ⟨ret_ri ?_ ?_, Below.refl _ _⟩ <;> rw [HM.out] <;> rfl
      · obtain rfl : m = k + 1 := by omega
        rw [Nat.sub_self, tail_zero] at he
        obtain ⟨r, hg, hw, hwl, hwt⟩ : ∃ r, Whole (x :: t) r := by
          rcases H1.out with h | ⟨_, _, _, h⟩
          · exact h
          · have := h x k lo hi rfl HL.out
            rw [he] at this
            omega
        rw [he] at hw
        obtain ⟨e1, e2⟩ := Prod.mk.inj hw
        subst e1
        have hsz : (S (utfN r')).size = k + 1 := by rw [size_S, e2]
        have hS : S (utfN r') = Utf8.encode (r' : Int) := S_B _
        have hdg : Lib.decodeGo (S (utfN r')) = (r', k + 1) := by
          unfold Lib.decodeGo
          rw [if_neg (by omega), hS, decode_whole hg, ← hS, hsz]
        have hD := decode_rune (S (utfN r')) b o c w HT.out.tab (fun j hj => by
          rw [hsz] at hj
          have hj' : j < (utfN r').length := by omega
          obtain ⟨y, hy⟩ : ∃ y, (utfN r')[j]? = some y := ⟨_, List.getElem?_eq_getElem hj'⟩
          rw [S_get _ j y hy]
          refine HC.out j y ?_
          rw [← hwt, List.getElem?_take] at hy
          rwa [if_pos (by omega)] at hy)
        rw [hsz, hdg] at hD
        have HDR := Lib.hid hD
        have HM := Lib.hid he
        have hkc : k + 1 ≤ c := by omega
        have d0 : decide (((k : Int) + 1) < (k : Int) + 1) = false := decide_eq_false (by omega)
        clear he hw hwl hwt e2 hsz hS hdg hD hg
        go_wp2_with (go_at_call 32; with_reducible refine HDR.out.mono ?_; rintro e w' ⟨rfl, hb⟩)
        go_ret2
        refine ⟨ret_ri ?_ ?_, hb⟩ <;> rw [HM.out] <;> rfl
end Go.Proofs.YtpdbbpmkdkjppaaDoor
