/- The reference's Escape; names.Raw, names.Void, serial.verbatim; the reference's Raw, in, Void. -/
import Derived.Test.YtojpedgfllgbcaaDoorSerE
import Derived.Test.YtojpedgfllgbcaaDoorTrM
import Derived.Test.YtojpedgfllgbcaaDoorLit
namespace Go.Proofs.YtojpedgfllgbcaaDoor
open Go.RowKit

theorem ret_strR {a b : ByteArray} (h : B a = B b) : Ending.returned (.string a) = .returned (.string b) := by rw [B_inj h]
theorem B_appR (a b : ByteArray) : B (a ++ b) = B a ++ B b := by
  unfold B
  rw [ByteArray.data_append, Array.toList_append]
theorem escT_at {attr : Bool} {s : ByteArray} {k : Nat} (h : k < s.size) (hn : ¬ (s[k] = 194 ∧ ∃ h2 : k + 1 < s.size, s[k + 1] = 160)) : escT attr ((B s).drop k) = escY attr s[k] ++ escT attr ((B s).drop (k + 1)) := by
  rw [drop_at s k h]
  refine escT_cons attr _ _ ?_
  rintro ⟨h1, h2⟩
  refine hn ⟨h1, ?_⟩
  rw [List.head?_drop] at h2
  have hl := (List.getElem?_eq_some_iff.1 h2).1
  rw [← size_B] at hl
  rw [B_at s _ hl] at h2
  exact ⟨hl, by simpa using h2⟩
theorem escT_two {attr : Bool} {s : ByteArray} {k : Nat} (h : k + 1 < s.size) (h1 : s[k] = 194) (h2 : s[k + 1] = 160) : escT attr ((B s).drop k) = nbspL ++ escT attr ((B s).drop (k + 2)) := by
  rw [drop_at s k (by omega), drop_at s (k + 1) h, h1, h2]
  exact escT_nbsp attr _

theorem byte_eq {x m : UInt8} (h : x = m) : ((x.toNat : Int) == (m.toNat : Int)) = true := by rw [h]; exact beq_self_eq_true _
theorem byte_ne {x m : UInt8} (h : ¬ x = m) : ((x.toNat : Int) == (m.toNat : Int)) = false := by
  rw [beq_eq_false_iff_ne]
  intro e
  exact h (UInt8.toNat_inj.1 (by omega))
theorem esc_fin {attr : Bool} {s o lit : ByteArray} {k k' : Nat} {L : List UInt8} (hL : B lit = L) (h : escT attr ((B s).drop k) = L ++ escT attr ((B s).drop k')) (heq : B o ++ escT attr ((B s).drop k) = escT attr (B s)) :
    B (o ++ lit) ++ escT attr ((B s).drop k') = escT attr (B s) := by rw [B_appR, List.append_assoc, hL, ← h, heq]
theorem B_one (s : ByteArray) (k : Nat) (h : k < s.size) : B (s.extract k (k + 1)) = [s[k]] := by
  rw [B_piece, drop_at s k h, Nat.add_sub_cancel_left, List.take_succ_cons, List.take_zero]

set_option maxHeartbeats 4000000 in
set_option maxRecDepth 100000 in
theorem rescape_any (s : ByteArray) (attr : Bool) (w : World) (hs : s.size ≤ 1000000000) :
    Calls Tryd.prog 26 #[.string s, .bool attr] w fun e w' => e = .returned (.string (S (escT attr (B s)))) ∧ w = w' := by
  have hLs := escT_len attr _ (B s) (Nat.le_refl _)
  rw [← size_B] at hLs
  have HL := Lib.hid hLs
  clear hLs
  go_enter Tryd.func26, Tryd.ntmps26
  go_wp2_with fail
  go_loop [5, 6] (fun ov iv => ∃ (k : Nat) (o : ByteArray), k ≤ s.size ∧ iv = .int .i64 k ∧ ov = .string o ∧ B o ++ escT attr ((B s).drop k) = escT attr (B s)) (fun _ iv => s.size - (intOf iv).toNat)
  case atStart => exact ⟨0, ⟨#[]⟩, Nat.zero_le _, rfl, rfl, rfl⟩
  case round =>
    obtain ⟨k, o, hk, rfl, rfl, heq⟩ := hrel
    have hol : o.size ≤ 6000000000 := by
      have := congrArg List.length heq
      rw [List.length_append, ← size_B] at this
      have := HL.out
      omega
    have HEQ := Lib.hid heq
    clear heq
    by_cases hlt : k < s.size
    · have i1 : IntKind.i64.wrap ((k : Int) + 1) = (k : Int) + 1 := IntWalk.i64_in _ (by omega)
      have d0 : decide ((k : Int) < (s.size : Int)) = true := decide_eq_true (by omega)
      by_cases h38 : s[k] = 38
      · have e38 : ((s[k].toNat : Int) == 38) = true := byte_eq h38
        have HE : Hid (escT attr ((B s).drop k) = ampL ++ escT attr ((B s).drop (k + 1))) := by
          show _ = _
          rw [escT_at hlt (by rw [h38]; rintro ⟨h, _⟩; cases h), h38]; rfl
        clear h38
        go_wp2_with fail
        go_round
        case rel => exact ⟨k + 1, _, by omega, by go_num, rfl, esc_fin rfl HE.out HEQ.out⟩
        case measure => simp [intOf]; omega
      · have e38 : ((s[k].toNat : Int) == 38) = false := byte_ne h38
        by_cases h2 : ∃ h2 : k + 1 < s.size, s[k] = 194 ∧ s[k + 1] = 160
        · obtain ⟨hl2, h194, h160⟩ := h2
          have e194 : ((s[k].toNat : Int) == 194) = true := byte_eq h194
          have e160 : ((s[k + 1].toNat : Int) == 160) = true := byte_eq h160
          have d2 : decide ((k : Int) + 1 < (s.size : Int)) = true := decide_eq_true (by omega)
          have HE := Lib.hid (escT_two (attr := attr) hl2 h194 h160)
          have i2 : IntKind.i64.wrap ((k : Int) + 1 + 1) = (k : Int) + 2 := by rw [IntWalk.i64_in _ (by omega)]; omega
          clear h38 h194 h160
          go_wp2_with fail
          go_round
          case rel => exact ⟨k + 2, _, by omega, by go_num, rfl, esc_fin rfl HE.out HEQ.out⟩
          case measure => simp [intOf]; omega
        · have HE := Lib.hid (escT_at (attr := attr) hlt (fun ⟨h1, h3, h4⟩ => h2 ⟨h3, h1, h4⟩))
          have s1 : k ≤ k + 1 := by omega
          have s2 : k + 1 ≤ s.size := by omega
          have s3 : (k : Int) ≤ (k : Int) + 1 := by omega
          by_cases h194 : s[k] = 194
          · have e194 : ((s[k].toNat : Int) == 194) = true := byte_eq h194
            have e34 : ((s[k].toNat : Int) == 34) = false := byte_ne (x := s[k]) (m := 34) (by rw [h194]; decide)
            have e60 : ((s[k].toNat : Int) == 60) = false := byte_ne (x := s[k]) (m := 60) (by rw [h194]; decide)
            have e62 : ((s[k].toNat : Int) == 62) = false := byte_ne (x := s[k]) (m := 62) (by rw [h194]; decide)
            have hY : B (s.extract k (k + 1)) = escY attr s[k] := by rw [B_one s k hlt, h194]; cases attr <;> rfl
            have HY := Lib.hid hY
            clear hY
            by_cases hl2 : k + 1 < s.size
            · have d2 : decide ((k : Int) + 1 < (s.size : Int)) = true := decide_eq_true (by omega)
              have e160 : ((s[k + 1].toNat : Int) == 160) = false := byte_ne (fun h => h2 ⟨hl2, h194, h⟩)
              clear h2 h38 h194
              cases attr
              all_goals
                go_wp2_with fail
                go_round
                case rel => exact ⟨k + 1, _, by omega, by go_num, rfl, esc_fin HY.out HE.out HEQ.out⟩
                case measure => simp [intOf]; omega
            · have d2 : decide ((k : Int) + 1 < (s.size : Int)) = false := decide_eq_false (by omega)
              clear h2 h38 h194
              cases attr
              all_goals
                go_wp2_with fail
                go_round
                case rel => exact ⟨k + 1, _, by omega, by go_num, rfl, esc_fin HY.out HE.out HEQ.out⟩
                case measure => simp [intOf]; omega
          · have e194 : ((s[k].toNat : Int) == 194) = false := byte_ne h194
            clear h2
            cases attr
            · by_cases h60 : s[k] = 60
              · have e60 : ((s[k].toNat : Int) == 60) = true := byte_eq h60
                have HY : Hid (B ⟨#[38, 108, 116, 59]⟩ = escY false s[k]) := by show _ = _; rw [h60]; rfl
                clear h60 h38 h194
                go_wp2_with fail
                go_round
                case rel => exact ⟨k + 1, _, by omega, by go_num, rfl, esc_fin HY.out HE.out HEQ.out⟩
                case measure => simp [intOf]; omega
              · have e60 : ((s[k].toNat : Int) == 60) = false := byte_ne h60
                by_cases h62 : s[k] = 62
                · have e62 : ((s[k].toNat : Int) == 62) = true := byte_eq h62
                  have HY : Hid (B ⟨#[38, 103, 116, 59]⟩ = escY false s[k]) := by show _ = _; rw [h62]; rfl
                  clear h60 h38 h194 h62
                  go_wp2_with fail
                  go_round
                  case rel => exact ⟨k + 1, _, by omega, by go_num, rfl, esc_fin HY.out HE.out HEQ.out⟩
                  case measure => simp [intOf]; omega
                · have e62 : ((s[k].toNat : Int) == 62) = false := byte_ne h62
                  have HY : Hid (B (s.extract k (k + 1)) = escY false s[k]) := by show _ = _; rw [B_one s k hlt]; unfold escY; rw [if_neg h38, if_neg (by simp), if_neg (by simp [h60]), if_neg (by simp [h62])]
                  clear h60 h38 h194 h62
                  go_wp2_with fail
                  go_round
                  case rel => exact ⟨k + 1, _, by omega, by go_num, rfl, esc_fin HY.out HE.out HEQ.out⟩
                  case measure => simp [intOf]; omega
            · by_cases h34 : s[k] = 34
              · have e34 : ((s[k].toNat : Int) == 34) = true := byte_eq h34
                have HY : Hid (B ⟨#[38, 113, 117, 111, 116, 59]⟩ = escY true s[k]) := by show _ = _; rw [h34]; rfl
                clear h34 h38 h194
                go_wp2_with fail
                go_round
                case rel => exact ⟨k + 1, _, by omega, by go_num, rfl, esc_fin HY.out HE.out HEQ.out⟩
                case measure => simp [intOf]; omega
              · have e34 : ((s[k].toNat : Int) == 34) = false := byte_ne h34
                have HY : Hid (B (s.extract k (k + 1)) = escY true s[k]) := by show _ = _; rw [B_one s k hlt]; unfold escY; rw [if_neg h38, if_neg (by simp [h34]), if_neg (by simp), if_neg (by simp)]
                clear h34 h38 h194
                go_wp2_with fail
                go_round
                case rel => exact ⟨k + 1, _, by omega, by go_num, rfl, esc_fin HY.out HE.out HEQ.out⟩
                case measure => simp [intOf]; omega
    · have d0 : decide ((k : Int) < (s.size : Int)) = false := decide_eq_false (by omega)
      go_wp2_with fail
      go_ret
      refine ⟨ret_strR ?_, rfl⟩
      have h := HEQ.out
      rw [List.drop_eq_nil_of_le (by rw [← size_B]; omega)] at h
      simpa [escT] using h
end Go.Proofs.YtojpedgfllgbcaaDoor
