/- Joined texts: ScanP, AddP. -/
import Derived.Test.YtdjeajbinpgpiaaGreatJLexerTells5
import Derived.WalkKit
import Derived.KernelRfl
import Derived.WalkLawsBesides
import Derived.WalkSpells
import Derived.Lib.Hide
import Derived.Lib.ConvBytes
import Derived.Shelf.Vars
import Derived.Laws.BytesArg
import Derived.Test.YtdjeajbinpgpiaaGreatJLexerTells3
import Derived.Test.YtdjeajbinpgpiaaGreatJLexerTells4
import Derived.Test.YtdjeajbinpgpiaaGreatJLexerTells1
namespace Go.Proofs.YtdjeajbinpgpiaaGreat
open Go.RowKit

theorem indexByte_any (s : ByteArray) (c : Int) (w : World) :
    Calls Tryz.prog 100 #[.string s, .int .u8 c] w fun e w' => e = .returned (.int .i64 (Lib.indexByte (B s) c.toNat.toUInt8)) ∧ w = w' :=
  (Tryz.strings_IndexByte s c w).mono fun _ _ ⟨h, h'⟩ => ⟨h, h'.symm⟩
theorem space_any (c : Int) (w : World) :
    Calls Tryz.prog 112 #[.int .i32 c] w fun e w' => e = .returned (.bool (c == 9 || c == 10 || c == 12 || c == 13 || c == 32)) ∧ w = w' := by
  go_enter Tryz.func112, Tryz.ntmps112
  go_wp2
  all_goals
    go_ret
    refine ⟨ret_bool ?_, rfl⟩
    simp [*]

theorem space_eq (c : UInt8) : ((c.toNat : Int) == 9 || (c.toNat : Int) == 10 || (c.toNat : Int) == 12 || (c.toNat : Int) == 13 || (c.toNat : Int) == 32) = spaceB c := by
    have e : ∀ n : Nat, n < 256 → (((c.toNat : Int) == (n : Int)) = (c == UInt8.ofNat n)) := fun n hn => by
      rw [Bool.eq_iff_iff, beq_iff_eq, beq_iff_eq, ← UInt8.toNat_inj, UInt8.toNat_ofNat_of_lt' hn]
      omega
    have e9 := e 9 (by omega)
    have e10 := e 10 (by omega)
    have e12 := e 12 (by omega)
    have e13 := e 13 (by omega)
    have e32 := e 32 (by omega)
    unfold spaceB
    simp only [Int.cast_ofNat_Int] at e9 e10 e12 e13 e32
    rw [e9, e10, e12, e13, e32]
    rfl
theorem space_byte (c : UInt8) (w : World) :
    Calls Tryz.prog 112 #[.int .i32 (c.toNat : Int)] w fun e w' => e = .returned (.bool (spaceB c)) ∧ w = w' :=
  (space_any _ w).mono fun _ _ ⟨h, h'⟩ => ⟨h.trans (ret_bool (space_eq c)), h'⟩

/-- As the walk writes 'Space(rune(c))'. -/
theorem space_rune (c : UInt8) (w : World) :
    Calls Tryz.prog 112 #[.int .i32 (wrap32 (c.toNat : Int))] w fun e w' => e = .returned (.bool (spaceB c)) ∧ w = w' := by
  rw [wrap_byte]
  exact space_byte c w

set_option maxHeartbeats 400000 in
theorem skip_any (s : ByteArray) (at_ : Int) (w : World) (hs : s.size ≤ 9223372036854775807) :
    Calls Tryz.prog 94 #[.string s, .int .i64 at_] w fun e w' => e = .returned (.int .i64 (skipL (B s) (clampN at_ s.size) : Nat)) ∧ w = w' := by
  have hk := clampN_le at_ s.size
  have Hw := fun w => within_any s at_ w hs
  generalize clampN at_ s.size = k at *
  go_enter Tryz.func94, Tryz.ntmps94
  go_wp2_with (first
    | (go_at_call 59; refine (Hw _).mono ?_; rintro e w' ⟨rfl, rfl⟩))
  go_loop [1] (fun i => ∃ j : Nat, k ≤ j ∧ j ≤ s.size ∧ i = .int .i64 j ∧ skipL (B s) j = skipL (B s) k) (fun i => s.size - (intOf i).toNat)
  case atStart => exact ⟨k, Nat.le_refl _, hk, rfl, rfl⟩
  case round =>
    obtain ⟨j, hj1, hj2, rfl, he⟩ := hrel
    have HE := Lib.hid he
    clear he
    by_cases hlt : j < s.size
    · go_wp2_with (first
          | (go_at_call 112; refine (space_rune _ _).mono ?_; rintro e w' ⟨rfl, rfl⟩))
      · have hp : spaceB s[j] = true := by assumption
        refine ⟨⟨j + 1, by omega, by omega, by go_num, (stopB_step _ s j hlt hp).trans HE.out⟩, by simp [intOf]; omega⟩
      · have hp : spaceB s[j] = false := by assumption
        go_ret
        refine ⟨ret_int ?_, rfl⟩
        rw [← HE.out, skipL, stopB_stop _ s j hlt hp]
    · go_wp2
      go_ret
      refine ⟨ret_int ?_, rfl⟩
      rw [← HE.out, skipL, stopB_end _ s j hlt]

set_option maxHeartbeats 400000 in
theorem until_any (s : ByteArray) (at_ : Int) (set : ByteArray) (w : World) (hs : s.size ≤ 9223372036854775807) :
    Calls Tryz.prog 75 #[.string s, .int .i64 at_, .string set] w fun e w' => e = .returned (.int .i64 (untilL (B s) (B set) (clampN at_ s.size) : Nat)) ∧ w = w' := by
  have hk := clampN_le at_ s.size
  have Hw := fun w => within_any s at_ w hs
  generalize clampN at_ s.size = k at *
  go_enter Tryz.func75, Tryz.ntmps75
  go_wp2_with (first
    | (go_at_call 59; refine (Hw _).mono ?_; rintro e w' ⟨rfl, rfl⟩))
  go_loop [1] (fun i => ∃ j : Nat, k ≤ j ∧ j ≤ s.size ∧ i = .int .i64 j ∧ untilL (B s) (B set) j = untilL (B s) (B set) k) (fun i => s.size - (intOf i).toNat)
  case atStart => exact ⟨k, Nat.le_refl _, hk, rfl, rfl⟩
  case round =>
    obtain ⟨j, hj1, hj2, rfl, he⟩ := hrel
    have HE := Lib.hid he
    clear he
    by_cases hlt : j < s.size
    · go_wp2_with (first
          | (go_at_call 100; refine (indexByte_any _ _ _).mono ?_; rintro e w' ⟨rfl, rfl⟩; rw [byte_back]))
      · have hp : Lib.indexByte (B set) s[j] < 0 := by assumption
        refine ⟨⟨j + 1, by omega, by omega, by go_num, (stopB_step _ s j hlt ((indexByte_neg _ _).1 hp)).trans HE.out⟩, by simp [intOf]; omega⟩
      · have hp : ¬ Lib.indexByte (B set) s[j] < 0 := by omega
        go_ret
        refine ⟨ret_int ?_, rfl⟩
        rw [← HE.out, untilL, stopB_stop _ s j hlt (by rw [indexByte_neg, Bool.not_eq_true] at hp; exact hp)]
    · go_wp2
      go_ret
      refine ⟨ret_int ?_, rfl⟩
      rw [← HE.out, untilL, stopB_end _ s j hlt]

theorem name_any (s : ByteArray) (at_ : Int) (w : World) (hs : s.size ≤ 9223372036854775807) :
    Calls Tryz.prog 58 #[.string s, .int .i64 at_] w fun e w' => e = .returned (.int .i64 (nameL (B s) (clampN at_ s.size) : Nat)) ∧ w = w' := by
  go_enter Tryz.func58, Tryz.ntmps58
  go_wp2_with (first
    | (go_at_call 75; refine (until_any _ _ _ _ hs).mono ?_; rintro e w' ⟨rfl, rfl⟩))
  go_ret
  exact ⟨rfl, rfl⟩

end Go.Proofs.YtdjeajbinpgpiaaGreat

namespace Go.Proofs.YtdjeajbinpgpiaaGreat
open Go.RowKit

set_option maxHeartbeats 2000000 in
set_option maxRecDepth 100000 in
theorem add_at (w : World) (A : Option Addr) (n c : Nat) (l : List At) (x : At) (h : RdA w A n l) (hsz : n + 1 ≤ 4398046511104) (hc0 : A = none → c = 0) :
    Calls Tryz.prog 96 #[.slice A n c, val_at x] w fun e w' => ∃ v', e = .returned v' ∧ RowA w' w.heap.size v' (addA l x) ∧ Below w.heap.size w w' := by
  obtain ⟨i0, hi0, hz0, hz1, hz2⟩ := info_parts info_at
  have hb0 : Below w.heap.size w (w.alloc (.cells (enc_at x).toArray 71)) := (Below.refl _ _).alloc (Nat.le_refl _) _
  have hx : Blk (w.alloc (.cells (enc_at x).toArray 71)) w.heap.size 71 (enc_at x).toArray (0, 0) := Blk.new w _ _ _
  have H := Lib.hid h
  have HC := Lib.hid (clone_at (w.alloc (.cells (enc_at x).toArray 71)) A n c l (h.keep hb0) (by omega) hc0)
  have HX := Lib.hid hx
  have HL := Lib.hid h.1
  have HB0 := Lib.hid hb0
  have HSZ := Lib.hid hsz
  clear h hx hb0 hc0
  unfold val_at
  obtain ⟨k, hk⟩ : ∃ k, findA l x.name = k := ⟨_, rfl⟩
  have HK := Lib.hid hk
  have hf := findA_neg l x.name
  rw [hk] at hf
  have hadd : Hid (addA l x = if l.any (nameP x.name) = true then l else l ++ [x]) := rfl
  clear hk
  cases hq : l.any (nameP x.name)
  all_goals
    rw [hq] at hf
    simp only [Bool.not_false, Bool.not_true] at hf
    have HQ := Lib.hid hq
    clear hq
    go_enter Tryz.func96, Tryz.ntmps96
    go_wp2_with fail
    refine HC.out.mono ?_
    rintro e w1 ⟨v1, rfl, hrow1, b1⟩
    obtain ⟨A1, c1, hv1, hr1⟩ := hrow1.read
    have hx1 := HX.out.keep b1
    obtain ⟨x0, x1⟩ := var_at hx1
    have hfi := find_at w1 A n c l x.name (H.out.keep (below_then HB0.out HB0.out.size b1)) (by have := HSZ.out; omega)
    rw [HK.out] at hfi
    have HF := Lib.hid hfi
    have HR1 := Lib.hid (hrow1.le HB0.out.size)
    have HX1 := Lib.hid hx1
    have HB1 := Lib.hid (below_then HB0.out HB0.out.size b1)
    subst hv1
    clear hrow1 hr1 hx1 hfi b1
    go_wp2_with fail
    refine HF.out.mono ?_
    rintro e w2 ⟨rfl, b2⟩
    have HB2 := Lib.hid (below_then HB1.out HB1.out.size b2)
    have HR2 := Lib.hid (HR1.out.keep b2)
    have hx2 := HX1.out.keep b2
    obtain ⟨y0, y1⟩ := var_at hx2
    have hbb : Below w2.heap.size w2 (w2.alloc (.cells (enc_at x).toArray 71)) := (Below.refl _ _).alloc (Nat.le_refl _) _
    have HR4 := Lib.hid (HR2.out.keep hbb)
    have HRD := Lib.hid (rd_one_at (Blk.new w2 71 (enc_at x).toArray (0, 0)))
    have HB4 := Lib.hid (below_then HB2.out HB2.out.size hbb)
    clear b2 hx2 hbb
  · go_wp2_with (first
      | (at_builtin
         refine append_made w _ rfl (.tmp 13) (.tmp 15) _ rfl 71 i0 _ 2 32 Tryz.underlying42 hi0 hz0 hz1 hz2 rfl (by omega) _ _ _ rfl HR4.out (some ⟨w2.heap.size, 0, none⟩) 1 1 _ rfl HRD.out (by simp only [maxLen]; have := HSZ.out; have := HL.out; omega) (by have := HSZ.out; have := HL.out; omega) HB4.out ?_
         intro v2 w3 hown2 hb3 hg2
         have HO3 := Lib.hid hown2
         have HB3 := Lib.hid hb3
         clear hown2 hb3 hg2))
    go_ret
    refine ⟨_, rfl, ?_, HB3.out⟩
    have ho := HO3.out
    rw [hadd.out, if_neg (by rw [HQ.out]; decide)]
    unfold RowA
    rw [List.length_append, List.flatMap_append]
    simpa using ho
  · go_wp2_with fail
    go_ret
    refine ⟨_, rfl, ?_, HB2.out⟩
    rw [hadd.out, if_pos HQ.out]
    exact HR2.out
end Go.Proofs.YtdjeajbinpgpiaaGreat
