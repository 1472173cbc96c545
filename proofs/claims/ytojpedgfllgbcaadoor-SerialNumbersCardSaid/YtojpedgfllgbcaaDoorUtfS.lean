/- strings.ReplaceAll, where something else stands in an instance's place. -/
import Derived.Test.YtojpedgfllgbcaaDoorUtfM
import Derived.Test.YtojpedgfllgbcaaDoorBuilder
import Derived.Lib.SplitLaws
namespace Go.Proofs.YtojpedgfllgbcaaDoor
open Go.RowKit

theorem index_fit : ∀ (s sub : List UInt8) (k : Nat), Lib.index s sub = k → k + sub.length ≤ s.length
  | [], sub, k, h => by
    unfold Lib.index at h
    cases sub with
    | nil => simp at h ⊢; omega
    | cons a t => simp at h
  | b :: l, sub, k, h => by
    unfold Lib.index at h
    by_cases hp : sub.isPrefixOf (b :: l) = true
    · rw [if_pos hp] at h
      obtain rfl : k = 0 := by omega
      rw [Nat.zero_add]
      exact (List.isPrefixOf_iff_prefix.1 hp).length_le
    · rw [if_neg hp] at h
      by_cases hm : (Lib.index l sub == -1) = true
      · rw [if_pos hm] at h; omega
      · rw [if_neg hm] at h
        have hge := Lib.index_ge l sub
        have hne : Lib.index l sub ≠ -1 := fun e => hm (beq_iff_eq.2 e)
        have := index_fit l sub (Lib.index l sub).toNat (by omega)
        rw [List.length_cons]
        omega
theorem ret_strU {a b : ByteArray} (h : a = b) : Ending.returned (.string a) = .returned (.string b) := by rw [h]
set_option maxHeartbeats 4000000 in
set_option maxRecDepth 100000 in
theorem replace_any (s old new : ByteArray) (w : World) (hne : old ≠ new) (h1 : 1 ≤ old.size) (ho4 : old.size ≤ 8) (hn4 : new.size ≤ 8) (hs : s.size ≤ 10000000) (hT : Tabs w) (g : Nat) (hg : (s.size : Int) + (Lib.count (B s) (B old) : Int) * ((new.size : Int) - (old.size : Int)) = g) (hg1 : g ≤ 100000000)
    (hR : (subA (B old) (B new) (B s)).length ≤ 100000000) :
    Calls Tryd.prog 71 #[.string s, .string old, .string new, .int .i64 (-1)] w fun e w' => e = .returned (.string (S (subA (B old) (B new) (B s)))) ∧ Below w.heap.size w w' := by
  obtain ⟨mx, hmx⟩ := hT.lax
  have hold : B old ≠ [] := fun e => by
    have := size_B old
    rw [e, List.length_nil] at this
    omega
  have q0 := bytes_ne hne
  have hC : Calls Tryd.prog 86 #[.string s, .string old] w fun e w' => e = .returned (.int .i64 (Lib.countB s old)) ∧ w = w' := (Tryd.strings_Count_any s old mx w (by omega) hmx h1).mono fun _ _ h => ⟨h.1, h.2.symm⟩
  have hcl : Lib.count (B s) (B old) ≤ s.size := Lib.countB_le old h1 _ s (Nat.le_refl _)
  have HC := Lib.hid hC
  have hca : Hid (Lib.countB s old = Lib.count (B s) (B old)) := rfl
  have hsub : Hid (subA (B old) (B new) (B s) = Lib.replaceK (B old) (B new) (Lib.count (B s) (B old)) (B s)) := rfl
  rw [hca.out] at HC
  obtain ⟨m, hm⟩ : ∃ m, Lib.count (B s) (B old) = m := ⟨_, rfl⟩
  rw [hm] at HC hg hcl hsub
  have HM := Lib.hid hm
  have HRL := Lib.hid hR
  have HG := Lib.hid hg
  have HO := Lib.hid hold
  have HX := Lib.hid hmx
  have hsz : s.size = s.size := rfl
  clear hC hca hm hR hmx hold hsz
  by_cases hm0 : m = 0
  · subst hm0
    go_enter Tryd.func71, Tryd.ntmps71
    go_wp2_with (go_at_call 86; with_reducible refine HC.out.mono ?_; rintro e w' ⟨rfl, rfl⟩)
    go_ret
    refine ⟨ret_strU ?_, Below.refl _ _⟩
    rw [hsub.out]
    unfold Lib.replaceK
    rw [S_B]
  · have n0 : ¬ ((m : Int) = 0) := by omega
    have hg' := HG.out
    have s1 : IntKind.i64.wrap ((new.size : Int) - (old.size : Int)) = (new.size : Int) - (old.size : Int) := IntWalk.i64_in _ (by omega)
    have s2 : IntKind.i64.wrap ((m : Int) * ((new.size : Int) - (old.size : Int))) = (m : Int) * ((new.size : Int) - (old.size : Int)) := IntWalk.i64_in _ (by omega)
    have s3 : IntKind.i64.wrap ((s.size : Int) + (m : Int) * ((new.size : Int) - (old.size : Int))) = (g : Int) := by rw [hg']; exact IntWalk.i64_in _ (by omega)
    have hb0 : Below w.heap.size w (w.alloc (.cells #[.pointer none, .slice none 0 0] 88)) := (Below.refl _ _).alloc (Nat.le_refl _) _
    have hGr := Tryd.Builder_Grow_fresh w.heap.size w.heap.size g (w.alloc (.cells #[.pointer none, .slice none 0 0] 88)) (Nat.le_refl _) (heap_alloc_new w _) hb0.size (by omega)
    have HGR := Lib.hid hGr
    have HB0 := Lib.hid hb0
    have p0 : decide (0 < old.size) = true := decide_eq_true (by omega)
    clear hg' hGr hb0
    go_enter Tryd.func71, Tryd.ntmps71
    go_wp2_with (first
      | (go_at_call 86; with_reducible refine HC.out.mono ?_; rintro e w' ⟨rfl, rfl⟩)
      | (go_at_call 87
         with_reducible refine HGR.out.mono ?_
         rintro e w1 ⟨rfl, hbd, hb1⟩
         have HBD := Lib.hid (show Bld w1 w.heap.size w.heap.size [] from .inr hbd)
         have HB1 := Lib.hid (show Below w.heap.size w w1 from HB0.out.trans hb1)
         clear hbd hb1))
    go_loopw [11, 53] (fun sv iv wr => ∃ (i st : Nat) (done : List UInt8), i ≤ m ∧ st ≤ s.size ∧ sv = .int .i64 st ∧ iv = .int .i64 i ∧ Bld wr w.heap.size w.heap.size done ∧ Below w.heap.size w wr ∧ Lib.count ((B s).drop st) (B old) = m - i ∧ subA (B old) (B new) (B s) = done ++ Lib.replaceK (B old) (B new) (m - i) ((B s).drop st)) (fun _ iv _ => m - (intOf iv).toNat)
    case atStart => exact ⟨0, 0, [], Nat.zero_le _, Nat.zero_le _, rfl, rfl, HBD.out, HB1.out, HM.out, hsub.out⟩
    case round =>
      obtain ⟨i, st, done, hi, hst, rfl, rfl, hbl, hbe, hct, heq⟩ := hrel
      have HBL := Lib.hid hbl
      have HBE := Lib.hid hbe
      have HCT := Lib.hid hct
      have HEQ := Lib.hid heq
      clear hbl hbe hct heq
      have hdl : done.length ≤ 100000000 := by
        have h := HRL.out
        rw [HEQ.out, List.length_append] at h
        omega
      by_cases hlt : i < m
      · have d0 : decide ((i : Int) < (m : Int)) = true := decide_eq_true (by omega)
        obtain ⟨k, hk⟩ := Lib.index_of_count (s := (B s).drop st) (old := B old) (by rw [HCT.out]; omega)
        have hch := Lib.count_hit HO.out hk
        rw [HCT.out] at hch
        have hrk := Lib.replaceK_hit (B old) (B new) (m - i - 1) _ k hk
        rw [show m - i - 1 + 1 = m - i by omega] at hrk
        have hocc : k + old.size + st ≤ s.size := by
          have h1 := index_fit _ _ _ hk
          rw [List.length_drop, ← size_B, ← size_B] at h1
          omega
        obtain ⟨e1, he1⟩ : ∃ e1, e1 = st + k := ⟨_, rfl⟩
        obtain ⟨f1, hf1⟩ : ∃ f1, f1 = e1 + old.size := ⟨_, rfl⟩
        have s4 : IntKind.i64.wrap ((st : Int) + (k : Int)) = (e1 : Int) := by rw [IntWalk.i64_in _ (by omega)]; omega
        have s5 : IntKind.i64.wrap ((e1 : Int) + (old.size : Int)) = (f1 : Int) := by rw [IntWalk.i64_in _ (by omega)]; omega
        have s6 : IntKind.i64.wrap ((i : Int) + 1) = (i : Int) + 1 := IntWalk.i64_in _ (by omega)
        have HIx : Hid (Calls Tryd.prog 60 #[.string (s.extract st s.size), .string old] wr fun e w' => e = .returned (.int .i64 (k : Int)) ∧ wr = w') :=
          (Tryd.strings_Index (s.extract st s.size) old mx wr (by have := size_extract_le s st s.size; omega) (cell_keep HBE.out HX.out)).mono fun _ _ h => ⟨by
            rw [h.1]
            show Ending.returned (.int .i64 (Lib.index (B (s.extract st s.size)) (B old))) = _
            rw [B_drop, hk], h.2.symm⟩
        have c1 : st ≤ e1 := by omega
        have c2 : e1 ≤ s.size := by omega
        have c3 : f1 ≤ s.size := by omega
        have hxl : done.length + (s.extract st e1).size ≤ 140737488355328 := by
          have := size_extract_le s st e1
          omega
        have HW := Lib.hid (write_any w.heap.size w.heap.size done (s.extract st e1) wr HBL.out hxl HBE.out.size)
        have hyl : (done ++ B (s.extract st e1)).length + new.size ≤ 140737488355328 := by
          rw [List.length_append, ← size_B]
          have := size_extract_le s st e1
          omega
        have hpc : B (s.extract st e1) = ((B s).drop st).take k := by
          rw [B_piece, he1, Nat.add_sub_cancel_left]
        have hol : (B old).length = old.size := (size_B old).symm
        have HFC : Hid (Lib.count ((B s).drop f1) (B old) = m - (i + 1)) := by
          show _ = _
          rw [List.drop_drop, hol, show st + (k + old.size) = f1 by omega] at hch
          omega
        have HFE : Hid (subA (B old) (B new) (B s) = (done ++ B (s.extract st e1) ++ B new) ++ Lib.replaceK (B old) (B new) (m - (i + 1)) ((B s).drop f1)) := by
          show _ = _
          rw [HEQ.out, hrk, hpc, List.drop_drop, hol, show st + (k + old.size) = f1 by omega, show m - i - 1 = m - (i + 1) by omega]
          simp only [List.append_assoc]
        clear hk hch hrk hxl hpc hol he1 hf1
        go_wp2_with (first
          | (go_at_call 60; with_reducible refine HIx.out.mono ?_; rintro e w' ⟨rfl, rfl⟩)
          | (go_at_call 67
             with_reducible refine HW.out.mono ?_
             rintro e w2 ⟨rfl, hb2, hl2⟩
             have HL := Lib.hid (HBE.out.trans hl2)
             have HW2 := Lib.hid (write_any w.heap.size w.heap.size _ new w2 hb2 hyl HL.out.size)
             clear hb2 hl2)
          | (go_at_call 67
             with_reducible refine HW2.out.mono ?_
             rintro e w3 ⟨rfl, hb3, hl3⟩))
        exact ⟨⟨i + 1, f1, _, by omega, c3, by first | exact True.intro | rfl, by go_num, hb3, HL.out.trans hl3, HFC.out, HFE.out⟩, by simp [intOf]; omega⟩
      · obtain rfl : i = m := by omega
        have d0 : decide ((i : Int) < (i : Int)) = false := decide_eq_false (by omega)
        have hq := HEQ.out
        rw [Nat.sub_self] at hq
        unfold Lib.replaceK at hq
        have HQ := Lib.hid hq
        clear hq
        have hxl : done.length + (s.extract st s.size).size ≤ 140737488355328 := by
          have := size_extract_le s st s.size
          omega
        have HW := Lib.hid (write_any w.heap.size w.heap.size done (s.extract st s.size) wr HBL.out hxl HBE.out.size)
        clear hxl
        go_wp2_with (first
          | (go_at_call 67
             with_reducible refine HW.out.mono ?_
             rintro e w2 ⟨rfl, hb2, hl2⟩
             have HS := Lib.hid (bstring_any w.heap.size w.heap.size _ w2 hb2 (by have := HBE.out.size; have := hl2.size; omega))
             have HL := Lib.hid (HBE.out.trans hl2)
             clear hb2 hl2)
          | (go_at_call 66
             with_reducible refine HS.out.mono ?_
             rintro e w3 ⟨rfl, hl3⟩))
        go_ret
        refine ⟨ret_strU ?_, HL.out.trans hl3⟩
        rw [HQ.out, B_drop]
theorem replaceAll_any (s old new : ByteArray) (w : World) (hne : old ≠ new) (h1 : 1 ≤ old.size) (ho4 : old.size ≤ 8) (hn4 : new.size ≤ 8) (hs : s.size ≤ 10000000) (hT : Tabs w) (g : Nat) (hg : (s.size : Int) + (Lib.count (B s) (B old) : Int) * ((new.size : Int) - (old.size : Int)) = g) (hg1 : g ≤ 100000000)
    (hR : (subA (B old) (B new) (B s)).length ≤ 100000000) :
    Calls Tryd.prog 48 #[.string s, .string old, .string new] w fun e w' => e = .returned (.string (S (subA (B old) (B new) (B s)))) ∧ Below w.heap.size w w' := by
  have HC := Lib.hid (replace_any s old new w hne h1 ho4 hn4 hs hT g hg hg1 hR)
  clear hne h1 ho4 hn4 hs hT hg hg1 hR
  go_enter Tryd.func48, Tryd.ntmps48
  go_wp2_with (go_at_call 71; with_reducible refine HC.out.mono ?_; rintro e w' ⟨rfl, hb⟩)
  go_ret
  exact ⟨rfl, hb⟩
theorem count_le1 (l old : List UInt8) (h : 1 ≤ old.length) : Lib.count l old ≤ l.length := by
  have := Lib.countB_le (S old) (by rw [size_S]; exact h) _ (S l) (Nat.le_refl _)
  rw [size_S] at this
  exact this
end Go.Proofs.YtojpedgfllgbcaaDoor
