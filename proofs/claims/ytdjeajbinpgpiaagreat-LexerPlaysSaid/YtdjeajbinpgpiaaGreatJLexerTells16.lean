/- Joined texts: MarkP, MarkC. -/
import Derived.Test.YtdjeajbinpgpiaaGreatJLexerTells2
import Derived.Test.YtdjeajbinpgpiaaGreatJLexerTells5
import Derived.Test.YtdjeajbinpgpiaaGreatJLexerTells13
import Derived.Laws.ResultCell
import Derived.LoopN
import Derived.Deep.CutBlock
import Derived.Deep.DeepCutAuto
namespace Go.Proofs.YtdjeajbinpgpiaaGreat
open Go.RowKit

def tkM (t : Tm) : Value := .agg #[.int .i64 t.kind, .string (S t.name), .slice none 0 0, .bool false, .string (S t.text)]
def valM (r : Mk) : Value := .tuple #[tkM r.1, .int .i64 r.2.1, .bool r.2.2]
theorem S_nil : S [] = ⟨#[]⟩ := rfl
/-- A result's variable: its cells, and that they may be written. -/
theorem var_tok {w : World} {b : Nat} (h : Blk w b 44 #[.int .i64 0, .string ⟨#[]⟩, .slice none 0 0, .bool false, .string ⟨#[]⟩] (0, 0)) : w.cell? ⟨b, 0, none⟩ = some (.int .i64 0) ∧ w.cell? ⟨b, 1, none⟩ = some (.string ⟨#[]⟩) ∧ w.cell? ⟨b, 2, none⟩ = some (.slice none 0 0) ∧ w.cell? ⟨b, 3, none⟩ = some (.bool false) ∧ w.cell? ⟨b, 4, none⟩ = some (.string ⟨#[]⟩) ∧
    (w.frozen? ⟨b, 0, none⟩ = false ∧ w.frozen? ⟨b, 1, none⟩ = false ∧ w.frozen? ⟨b, 2, none⟩ = false ∧ w.frozen? ⟨b, 3, none⟩ = false ∧ w.frozen? ⟨b, 4, none⟩ = false) :=
  ⟨h.cell 0, h.cell 1, h.cell 2, h.cell 3, h.cell 4, h.frozen 0 (.inr (Nat.zero_le _)), h.frozen 1 (.inr (Nat.zero_le _)), h.frozen 2 (.inr (Nat.zero_le _)), h.frozen 3 (.inr (Nat.zero_le _)), h.frozen 4 (.inr (Nat.zero_le _))⟩
theorem set5_below {w w1 : World} {b : Nat} (h : Below w.heap.size w w1) (hb : w.heap.size ≤ b) (u0 u1 u2 u3 u4 : Value) : Below w.heap.size w (((((w1.setCell ⟨b, 0, none⟩ u0).setCell ⟨b, 1, none⟩ u1).setCell ⟨b, 2, none⟩ u2).setCell ⟨b, 3, none⟩ u3).setCell ⟨b, 4, none⟩ u4) :=
  ((((h.setCell hb _).setCell hb _).setCell hb _).setCell hb _).setCell hb _
theorem ret_mark {v : Value} {r : Mk} (h : v = valM r) : Ending.returned v = .returned (valM r) := by rw [h]
theorem min_cast (a b : Nat) : ((min a b : Nat) : Int) = min (a : Int) (b : Int) := by omega

section
variable (s : ByteArray) (k : Nat) (w : World)
theorem findN (sub : ByteArray) (hs : s.size ≤ 65536) (hw : Lax w) (hk : k ≤ s.size) :
    Calls Tryz.prog 38 #[.string s, .int .i64 (k : Int), .string sub] w fun e w' => e = .returned (.int .i64 (findL (B s) (B sub) k : Nat)) ∧ w = w' := by
  have := find_any s (k : Int) sub w (by omega) hw
  rw [clampN_nat k s.size hk] at this
  exact this
theorem behind_any (hs : s.size ≤ 65536) (hw : Lax w) (hk : k ≤ s.size) :
    Calls Tryz.prog 99 #[.string s, .int .i64 (k : Int)] w fun e w' => e = .returned (.int .i64 (behindL (B s) k : Nat)) ∧ w = w' := by
  have HF := Lib.hid (findN s k w ⟨#[62]⟩ hs hw hk)
  have h2 := findL_le (B s) [62] k (by rw [← size_B]; exact hk)
  rw [← size_B] at h2
  have hbl : Hid (behindL (B s) k = min (findL (B s) [62] k + 1) s.size) := by show _ = _; unfold behindL; rw [← size_B]
  have HF2 : Hid (Calls Tryz.prog 38 #[.string s, .int .i64 (k : Int), .string ⟨#[62]⟩] w fun e w' => e = .returned (.int .i64 (findL (B s) [62] k : Nat)) ∧ w = w') := HF.out
  clear HF
  generalize findL (B s) [62] k = f at *
  go_enter Tryz.func99, Tryz.ntmps99
  go_wp2_with fail
  refine HF2.out.mono ?_
  rintro e w' ⟨rfl, rfl⟩
  go_wp2_with fail
  all_goals
    go_ret
    refine ⟨ret_int ?_, rfl⟩
    rw [hbl.out]
    omega

set_option maxHeartbeats 1000000 in
theorem rubbish_any (hs : s.size ≤ 65536) (hw : Lax w) (hk : k ≤ s.size) :
    Calls Tryz.prog 72 #[.string s, .int .i64 (k : Int)] w fun e w' => e = .returned (valM (rubbishM (B s) k)) ∧ Below w.heap.size w w' := by
  have hb0 : Below w.heap.size w (w.alloc (.cells #[.int .i64 0, .string ⟨#[]⟩, .slice none 0 0, .bool false, .string ⟨#[]⟩] 44)) := (Below.refl _ _).alloc (Nat.le_refl _) _
  have HF := findN s k (w.alloc (.cells #[.int .i64 0, .string ⟨#[]⟩, .slice none 0 0, .bool false, .string ⟨#[]⟩] 44)) ⟨#[62]⟩ hs (hw.below hb0) hk
  rw [show B ⟨#[62]⟩ = [62] from rfl] at HF
  have h1 := findL_ge (B s) [62] k (by rw [← size_B]; exact hk)
  have h2 := findL_le (B s) [62] k (by rw [← size_B]; exact hk)
  rw [← size_B] at h2
  have hbl : Hid (rubbishM (B s) k = (⟨5, [], pieceL (B s) k (findL (B s) [62] k)⟩, ((min (findL (B s) [62] k + 1) s.size : Nat) : Int), true)) := by show _ = _; unfold rubbishM behindL; rw [← size_B]
  have HFF := Lib.hid HF
  have hZ := Blk.new w 44 #[.int .i64 0, .string ⟨#[]⟩, .slice none 0 0, .bool false, .string ⟨#[]⟩] (0, 0)
  have HZ := Lib.hid hZ
  have HB0 := Lib.hid hb0
  clear HF hZ hb0
  generalize findL (B s) [62] k = f at *
  go_enter Tryz.func72, Tryz.ntmps72
  go_wp2_with fail
  refine HFF.out.mono ?_
  rintro e w' ⟨rfl, rfl⟩
  go_wp2_with fail
  refine (clone_any (s.extract k f) _ (by have := size_extract_le s k f; omega)).mono ?_
  rintro e w2 ⟨rfl, b2⟩
  obtain ⟨z0, z1, z2, z3, z4, f0, f1, f2, f3, f4⟩ := var_tok (HZ.out.keep b2)
  have HB2 := Lib.hid (below_then HB0.out HB0.out.size b2)
  clear b2
  go_wp2_with fail
  refine bodyPost_ret (v := .tuple #[.agg #[.int .i64 5, .string ⟨#[]⟩, .slice none 0 0, .bool false, .string (s.extract k f)], .int .i64 (min ((f : Int) + 1) (s.size : Int)), .bool true]) (by simp [results, Tryz.results72, go_sem, z0, z1, z2, z3, z4]) rfl
    ⟨ret_mark ?_, set5_below HB2.out (Nat.le_refl _) _ _ _ _ _⟩
  rw [hbl.out]
  simp [valM, tkM, S_piece, S_nil, min_cast]

set_option maxHeartbeats 1000000 in
theorem data_any (hs : s.size ≤ 65536) (hw : Lax w) (hk : k ≤ s.size) :
    Calls Tryz.prog 71 #[.string s, .int .i64 (k : Int)] w fun e w' => e = .returned (valM (dataM (B s) k)) ∧ Below w.heap.size w w' := by
  have hb0 : Below w.heap.size w (w.alloc (.cells #[.int .i64 0, .string ⟨#[]⟩, .slice none 0 0, .bool false, .string ⟨#[]⟩] 44)) := (Below.refl _ _).alloc (Nat.le_refl _) _
  have hwl := hw.below hb0
  have hZ := Blk.new w 44 #[.int .i64 0, .string ⟨#[]⟩, .slice none 0 0, .bool false, .string ⟨#[]⟩] (0, 0)
  have HZ := Lib.hid hZ
  have HB0 := Lib.hid hb0
  clear hZ hb0
  have HF := findN s k (w.alloc (.cells #[.int .i64 0, .string ⟨#[]⟩, .slice none 0 0, .bool false, .string ⟨#[]⟩] 44)) ⟨#[93, 93, 62]⟩ hs hwl hk
  rw [show B ⟨#[93, 93, 62]⟩ = endC from rfl] at HF
  have h1 := findL_ge (B s) endC k (by rw [← size_B]; exact hk)
  have h2 := findL_le (B s) endC k (by rw [← size_B]; exact hk)
  rw [← size_B] at h2
  have hbl : Hid (dataM (B s) k = (if findL (B s) endC k = k then noTm else ⟨4, [], pieceL (B s) k (findL (B s) endC k)⟩, ((min (findL (B s) endC k + 3) s.size : Nat) : Int), true)) := by show _ = _; unfold dataM; rw [← size_B]
  have HFF := Lib.hid HF
  clear HF hwl hw
  generalize findL (B s) endC k = f at *
  by_cases hfk : f = k
  · have d0 : ((f : Int) == (k : Int)) = true := by rw [hfk]; exact beq_self_eq_true _
    have HFK := Lib.hid hfk
    clear hfk
    obtain ⟨z0, z1, z2, z3, z4, f0, f1, f2, f3, f4⟩ := var_tok HZ.out
    go_enter Tryz.func71, Tryz.ntmps71
    go_wp2_with fail
    refine HFF.out.mono ?_
    rintro e w' ⟨rfl, rfl⟩
    go_wp2_with fail
    refine bodyPost_ret (v := .tuple #[.agg #[.int .i64 0, .string ⟨#[]⟩, .slice none 0 0, .bool false, .string ⟨#[]⟩], .int .i64 (min ((f : Int) + 3) (s.size : Int)), .bool true]) (by simp [results, Tryz.results71, go_sem]) rfl
      ⟨ret_mark ?_, HB0.out⟩
    rw [hbl.out, if_pos HFK.out]
    simp [valM, tkM, noTm, S_nil, min_cast]
  · have d0 : ((f : Int) == (k : Int)) = false := by rw [beq_eq_false_iff_ne]; omega
    have HFK := Lib.hid hfk
    clear hfk
    go_enter Tryz.func71, Tryz.ntmps71
    go_wp2_with fail
    refine HFF.out.mono ?_
    rintro e w' ⟨rfl, rfl⟩
    go_wp2_with fail
    refine (clone_any (s.extract k f) _ (by have := size_extract_le s k f; omega)).mono ?_
    rintro e w2 ⟨rfl, b2⟩
    obtain ⟨z0, z1, z2, z3, z4, f0, f1, f2, f3, f4⟩ := var_tok (HZ.out.keep b2)
    have HB2 := Lib.hid (below_then HB0.out HB0.out.size b2)
    clear b2
    go_wp2_with fail
    refine bodyPost_ret (v := .tuple #[.agg #[.int .i64 4, .string ⟨#[]⟩, .slice none 0 0, .bool false, .string (s.extract k f)], .int .i64 (min ((f : Int) + 3) (s.size : Int)), .bool true]) (by simp [results, Tryz.results71, go_sem, z0, z1, z2, z3, z4]) rfl
      ⟨ret_mark ?_, set5_below HB2.out (Nat.le_refl _) _ _ _ _ _⟩
    rw [hbl.out, if_neg HFK.out]
    simp [valM, tkM, S_piece, S_nil, min_cast]

set_option maxHeartbeats 1000000 in
theorem doctype_any (hs : s.size ≤ 65536) (hw : Lax w) (hk : k ≤ s.size) :
    Calls Tryz.prog 70 #[.string s, .int .i64 (k : Int)] w fun e w' => e = .returned (valM (doctypeM (B s) k)) ∧ Below w.heap.size w w' := by
  have hb0 : Below w.heap.size w (w.alloc (.cells #[.int .i64 0, .string ⟨#[]⟩, .slice none 0 0, .bool false, .string ⟨#[]⟩] 44)) := (Below.refl _ _).alloc (Nat.le_refl _) _
  have hwl := hw.below hb0
  have hZ := Blk.new w 44 #[.int .i64 0, .string ⟨#[]⟩, .slice none 0 0, .bool false, .string ⟨#[]⟩] (0, 0)
  have HZ := Lib.hid hZ
  have HB0 := Lib.hid hb0
  clear hZ hb0
  have HSK := Lib.hid (fun w => skip_any s (k : Int) w (by omega))
  rw [clampN_nat k s.size hk] at HSK
  have h1 := stopL_ge spaceB (B s) k
  have h2 := stopL_le spaceB (B s) k (by rw [← size_B]; exact hk)
  rw [← size_B] at h2
  rw [show stopL spaceB (B s) k = skipL (B s) k from rfl] at h1 h2
  have hdm : Hid (doctypeM (B s) k = (⟨1, lowL (pieceL (B s) (skipL (B s) k) (untilL (B s) endD (skipL (B s) k))), []⟩, (behindL (B s) (untilL (B s) endD (skipL (B s) k)) : Int), true)) := rfl
  generalize skipL (B s) k = f at *
  have HUN := Lib.hid (fun w => until_any s (f : Int) ⟨#[9, 10, 12, 13, 32, 62]⟩ w (by omega))
  rw [clampN_nat f s.size h2, show B ⟨#[9, 10, 12, 13, 32, 62]⟩ = endD from rfl] at HUN
  have h3 := stopL_ge (fun c => !hasB endD c) (B s) f
  have h4 := stopL_le (fun c => !hasB endD c) (B s) f (by rw [← size_B]; exact h2)
  rw [← size_B] at h4
  rw [show stopL (fun c => !hasB endD c) (B s) f = untilL (B s) endD f from rfl] at h3 h4
  generalize untilL (B s) endD f = t at *
  have HW := Lib.hid hwl
  have HSZ := Lib.hid hs
  clear hwl hw
  go_enter Tryz.func70, Tryz.ntmps70
  go_wp2_with fail
  refine (HSK.out _).mono ?_
  rintro e w' ⟨rfl, rfl⟩
  go_wp2_with fail
  refine (HUN.out _).mono ?_
  rintro e w' ⟨rfl, rfl⟩
  go_wp2_with fail
  refine (lower_any (s.extract f t) _ (by have := size_extract_le s f t; omega)).mono ?_
  rintro e w2 ⟨rfl, b2⟩
  have HB2 := Lib.hid (below_then HB0.out HB0.out.size b2)
  have HW2 := Lib.hid (HW.out.below b2)
  obtain ⟨z0, z1, z2, z3, z4, f0, f1, f2, f3, f4⟩ := var_tok (HZ.out.keep b2)
  clear b2
  go_wp2_with fail
  refine (behind_any s t w2 HSZ.out HW2.out h4).mono ?_
  rintro e w' ⟨rfl, rfl⟩
  go_wp2_with fail
  refine bodyPost_ret (v := .tuple #[.agg #[.int .i64 1, .string (S (lowL (B (s.extract f t)))), .slice none 0 0, .bool false, .string ⟨#[]⟩], .int .i64 (behindL (B s) t : Nat), .bool true]) (by simp [results, Tryz.results70, go_sem, z0, z1, z2, z3, z4]) rfl
    ⟨ret_mark ?_, set5_below HB2.out (Nat.le_refl _) _ _ _ _ _⟩
  rw [hdm.out, B_piece]
  simp [valM, tkM, S_nil, pieceL]
end
end Go.Proofs.YtdjeajbinpgpiaaGreat

namespace Go.Proofs.YtdjeajbinpgpiaaGreat
open Go.RowKit

theorem startsN (s : ByteArray) (k : Nat) (sub : ByteArray) (w : World) (hs : s.size ≤ 65536) (hk : k ≤ s.size) :
    Calls Tryz.prog 68 #[.string s, .int .i64 (k : Int), .string sub] w fun e w' => e = .returned (.bool (startsL (B s) (B sub) k)) ∧ w = w' := by
  have := starts_any s sub (k : Int) w (by omega)
  rw [clampN_nat k s.size hk] at this
  exact this
theorem hasSuffix_any (s p : ByteArray) (w : World) (hs : s.size ≤ 9223372036854775807) :
    Calls Tryz.prog 97 #[.string s, .string p] w fun e w' => e = .returned (.bool (endsL (B s) (B p))) ∧ w = w' :=
  (Tryz.strings_HasSuffix s p w hs).mono fun _ _ ⟨h, h'⟩ => ⟨h, h'.symm⟩
theorem trimSuffix_any (s p : ByteArray) (w : World) (hs : s.size ≤ 9223372036854775807) (h : endsL (B s) (B p) = true) :
    Calls Tryz.prog 98 #[.string s, .string p] w fun e w' => e = .returned (.string (S ((B s).take ((B s).length - (B p).length)))) ∧ w = w' :=
  (Tryz.strings_TrimSuffix s p w hs).mono fun _ _ ⟨h1, h2⟩ => ⟨by rw [h1]; unfold Lib.trimSuffix; rw [if_pos (show Lib.hasSuffix s.data.toList p.data.toList = true from h)]; rfl, h2.symm⟩

set_option maxHeartbeats 2000000 in
set_option maxRecDepth 100000 in
theorem comment_any (s : ByteArray) (k : Nat) (w : World) (hs : s.size ≤ 65536) (hw : Lax w) (hk : k ≤ s.size) :
    Calls Tryz.prog 69 #[.string s, .int .i64 (k : Int)] w fun e w' => e = .returned (valM (commentM (B s) k)) ∧ Below w.heap.size w w' := by
  have hb0 : Below w.heap.size w (w.alloc (.cells #[.int .i64 0, .string ⟨#[]⟩, .slice none 0 0, .bool false, .string ⟨#[]⟩] 44)) := (Below.refl _ _).alloc (Nat.le_refl _) _
  have hZ := Blk.new w 44 #[.int .i64 0, .string ⟨#[]⟩, .slice none 0 0, .bool false, .string ⟨#[]⟩] (0, 0)
  obtain ⟨w0, hw0⟩ : ∃ w0, w0 = w.alloc (.cells #[.int .i64 0, .string ⟨#[]⟩, .slice none 0 0, .bool false, .string ⟨#[]⟩] 44) := ⟨_, rfl⟩
  rw [← hw0] at hb0 hZ
  have hb1 : Below w0.heap.size w0 (w0.alloc (.cells #[.string ⟨#[62]⟩, .string ⟨#[45, 62]⟩] 9)) := (Below.refl _ _).alloc (Nat.le_refl _) _
  have hN := Blk.new w0 9 #[.string ⟨#[62]⟩, .string ⟨#[45, 62]⟩] (0, 0)
  obtain ⟨w1, hw1⟩ : ∃ w1, w1 = w0.alloc (.cells #[.string ⟨#[62]⟩, .string ⟨#[45, 62]⟩] 9) := ⟨_, rfl⟩
  rw [← hw1] at hb1 hN
  have n0 : w1.cell? ⟨w0.heap.size, 0, none⟩ = some (.string ⟨#[62]⟩) := hN.cell 0
  have n1 : w1.cell? ⟨w0.heap.size, 1, none⟩ = some (.string ⟨#[45, 62]⟩) := hN.cell 1
  have hs0 : w0.heap.size = w.heap.size + 1 := by rw [hw0]; simp
  rw [hs0] at n0 n1
  have hb01 := below_then hb0 hb0.size hb1
  obtain ⟨z0, z1, z2, z3, z4, f0, f1, f2, f3, f4⟩ := var_tok (hZ.keep hb1)
  have HZ := Lib.hid (hZ.keep hb1)
  have HB1 := Lib.hid hb01
  have HW := Lib.hid (hw.below hb01)
  have HSZ := Lib.hid hs
  have HK := Lib.hid hk
  have H1 := Lib.hid (startsN s k ⟨#[62]⟩ w1 hs hk)
  have H2 := Lib.hid (startsN s k ⟨#[45, 62]⟩ w1 hs hk)
  rw [show B ⟨#[62]⟩ = [62] from rfl] at H1
  rw [show B ⟨#[45, 62]⟩ = [45, 62] from rfl] at H2
  have hcm : Hid (commentM (B s) k = if startsL (B s) [62] k = true then (⟨5, [], []⟩, ((k + 1 : Nat) : Int), true)
    else if startsL (B s) [45, 62] k = true then (⟨5, [], []⟩, ((k + 2 : Nat) : Int), true)
    else if findL (B s) endA k < findL (B s) endB k then (⟨5, [], pieceL (B s) k (findL (B s) endA k)⟩, ((findL (B s) endA k + 3 : Nat) : Int), true)
    else if findL (B s) endB k < findL (B s) endA k then (⟨5, [], pieceL (B s) k (findL (B s) endB k)⟩, ((findL (B s) endB k + 4 : Nat) : Int), true)
    else (⟨5, [], cutEnd ((B s).drop k)⟩, ((B s).length : Int), true)) := rfl
  have s1 : IntKind.i64.wrap ((k : Int) + 1) = (k : Int) + 1 := IntWalk.i64_in _ (by omega)
  have s2 : IntKind.i64.wrap ((k : Int) + 2) = (k : Int) + 2 := IntWalk.i64_in _ (by omega)
  clear hb0 hZ hb1 hN hb01 hw hs hs0
  go_enter Tryz.func69, Tryz.ntmps69
  go_wp2_with fail
  rw [show w.alloc (.cells #[.int .i64 0, .string ⟨#[]⟩, .slice none 0 0, .bool false, .string ⟨#[]⟩] 44) = w0 from hw0.symm, show w0.alloc (.cells #[.string ⟨#[62]⟩, .string ⟨#[45, 62]⟩] 9) = w1 from hw1.symm]
  clear hw0 hw1
  cases hb1 : startsL (B s) [62] k
  rotate_left
  · have HQ1 := Lib.hid hb1
    rw [hb1] at H1
    clear hb1
    refine wp_loop_rounds 1 ?_
    rw [rounds_succ]
    go_wp2_with fail
    refine H1.out.mono ?_
    rintro e w' ⟨rfl, rfl⟩
    go_wp2_with fail
    refine bodyPost_ret (v := .tuple #[.agg #[.int .i64 5, .string ⟨#[]⟩, .slice none 0 0, .bool false, .string ⟨#[]⟩], .int .i64 ((k : Int) + 1), .bool true]) (by simp [results, Tryz.results69, go_sem, z0, z1, z2, z3, z4]) rfl
      ⟨ret_mark ?_, set5_below HB1.out (Nat.le_refl _) _ _ _ _ _⟩
    rw [hcm.out, if_pos HQ1.out]
    simp [valM, tkM, S_nil]
  · have HQ1 := Lib.hid hb1
    rw [hb1] at H1
    clear hb1
    cases hb2 : startsL (B s) [45, 62] k
    rotate_left
    · have HQ2 := Lib.hid hb2
      rw [hb2] at H2
      clear hb2
      refine wp_loop_rounds 2 ?_
      rw [rounds_succ]
      go_wp2_with fail
      refine H1.out.mono ?_
      rintro e w' ⟨rfl, rfl⟩
      go_wp2_with fail
      rw [rounds_succ]
      go_wp2_with fail
      refine H2.out.mono ?_
      rintro e w' ⟨rfl, rfl⟩
      go_wp2_with fail
      refine bodyPost_ret (v := .tuple #[.agg #[.int .i64 5, .string ⟨#[]⟩, .slice none 0 0, .bool false, .string ⟨#[]⟩], .int .i64 ((k : Int) + 2), .bool true]) (by simp [results, Tryz.results69, go_sem, z0, z1, z2, z3, z4]) rfl
        ⟨ret_mark ?_, set5_below HB1.out (Nat.le_refl _) _ _ _ _ _⟩
      rw [hcm.out, if_neg (by rw [HQ1.out]; decide), if_pos HQ2.out]
      simp [valM, tkM, S_nil]
    · have HQ2 := Lib.hid hb2
      rw [hb2] at H2
      clear hb2
      refine wp_loop_rounds 3 ?_
      rw [rounds_succ]
      go_wp2_with fail
      refine H1.out.mono ?_
      rintro e w' ⟨rfl, rfl⟩
      go_wp2_with fail
      rw [rounds_succ]
      go_wp2_with fail
      refine H2.out.mono ?_
      rintro e w' ⟨rfl, rfl⟩
      go_wp2_with fail
      rw [rounds_succ]
      have hFA := findN s k w1 ⟨#[45, 45, 62]⟩ HSZ.out HW.out HK.out
      have hFB := findN s k w1 ⟨#[45, 45, 33, 62]⟩ HSZ.out HW.out HK.out
      rw [show B ⟨#[45, 45, 62]⟩ = endA from rfl] at hFA
      rw [show B ⟨#[45, 45, 33, 62]⟩ = endB from rfl] at hFB
      have hkl : k ≤ (B s).length := by rw [← size_B]; exact HK.out
      have a1 := findL_ge (B s) endA k hkl
      have a2 := findL_le (B s) endA k hkl
      have b1 := findL_ge (B s) endB k hkl
      have b2 := findL_le (B s) endB k hkl
      rw [← size_B] at a2 b2
      have hcm2 := hcm.out
      rw [if_neg (by rw [HQ1.out]; decide), if_neg (by rw [HQ2.out]; decide)] at hcm2
      have HCM := Lib.hid hcm2
      have HFA := Lib.hid hFA
      have HFB := Lib.hid hFB
      clear hcm hcm2 hFA hFB hkl n0 n1
      generalize findL (B s) endA k = a at *
      generalize findL (B s) endB k = b at *
      go_wp2_with fail
      refine HFA.out.mono ?_
      rintro e w' ⟨rfl, rfl⟩
      go_wp2_with fail
      refine HFB.out.mono ?_
      rintro e w' ⟨rfl, rfl⟩
      have hsz := HSZ.out
      by_cases hab : a < b
      · have d0 : decide ((a : Int) < (b : Int)) = true := decide_eq_true (by omega)
        go_wp2_with fail
        refine (clone_any (s.extract k a) _ (by have := size_extract_le s k a; omega)).mono ?_
        rintro e w2 ⟨rfl, b2⟩
        obtain ⟨y0, y1, y2, y3, y4, g0, g1, g2, g3, g4⟩ := var_tok (HZ.out.keep b2)
        have HB2 := Lib.hid (below_then HB1.out HB1.out.size b2)
        clear b2
        go_wp2_with fail
        refine bodyPost_ret (v := .tuple #[.agg #[.int .i64 5, .string ⟨#[]⟩, .slice none 0 0, .bool false, .string (s.extract k a)], .int .i64 ((a : Int) + 3), .bool true]) (by simp [results, Tryz.results69, go_sem, y0, y1, y2, y3, y4]) rfl
          ⟨ret_mark ?_, set5_below HB2.out (Nat.le_refl _) _ _ _ _ _⟩
        rw [HCM.out, if_pos hab]
        simp [valM, tkM, S_nil, S_piece]
      · have d0 : decide ((a : Int) < (b : Int)) = false := decide_eq_false (by omega)
        by_cases hba : b < a
        · have d1 : decide ((b : Int) < (a : Int)) = true := decide_eq_true (by omega)
          go_wp2_with fail
          refine (clone_any (s.extract k b) _ (by have := size_extract_le s k b; omega)).mono ?_
          rintro e w2 ⟨rfl, b2⟩
          obtain ⟨y0, y1, y2, y3, y4, g0, g1, g2, g3, g4⟩ := var_tok (HZ.out.keep b2)
          have HB2 := Lib.hid (below_then HB1.out HB1.out.size b2)
          clear b2
          go_wp2_with fail
          refine bodyPost_ret (v := .tuple #[.agg #[.int .i64 5, .string ⟨#[]⟩, .slice none 0 0, .bool false, .string (s.extract k b)], .int .i64 ((b : Int) + 4), .bool true]) (by simp [results, Tryz.results69, go_sem, y0, y1, y2, y3, y4]) rfl
            ⟨ret_mark ?_, set5_below HB2.out (Nat.le_refl _) _ _ _ _ _⟩
          rw [HCM.out, if_neg hab, if_pos hba]
          simp [valM, tkM, S_nil, S_piece]
        · have d1 : decide ((b : Int) < (a : Int)) = false := decide_eq_false (by omega)
          have hbt : B (s.extract k s.size) = (B s).drop k := B_drop s k
          have hts : (s.extract k s.size).size ≤ 65536 := by have := size_extract_le s k s.size; omega
          have HCE := Lib.hid (show commentM (B s) k = (⟨5, [], cutEnd (B (s.extract k s.size))⟩, ((B s).length : Int), true) by rw [HCM.out, if_neg hab, if_neg hba, hbt])
          clear hbt
          have hb3 : Below w1.heap.size w1 (w1.alloc (.cells #[.string ⟨#[45, 45, 33]⟩, .string ⟨#[45, 45]⟩, .string ⟨#[45]⟩] 9)) := (Below.refl _ _).alloc (Nat.le_refl _) _
          have hN3 := Blk.new w1 9 #[.string ⟨#[45, 45, 33]⟩, .string ⟨#[45, 45]⟩, .string ⟨#[45]⟩] (0, 0)
          go_upto_block 3 with (fail)
          generalize s.extract k s.size = T at *
          obtain ⟨w3, hw3⟩ : ∃ w3, w3 = w1.alloc (.cells #[.string ⟨#[45, 45, 33]⟩, .string ⟨#[45, 45]⟩, .string ⟨#[45]⟩] 9) := ⟨_, rfl⟩
          rw [← hw3] at hb3 hN3
          rw [show w1.alloc (.cells #[.string ⟨#[45, 45, 33]⟩, .string ⟨#[45, 45]⟩, .string ⟨#[45]⟩] 9) = w3 from hw3.symm]
          have m0 : w3.cell? ⟨w1.heap.size, 0, none⟩ = some (.string ⟨#[45, 45, 33]⟩) := hN3.cell 0
          have m1 : w3.cell? ⟨w1.heap.size, 1, none⟩ = some (.string ⟨#[45, 45]⟩) := hN3.cell 1
          have m2 : w3.cell? ⟨w1.heap.size, 2, none⟩ = some (.string ⟨#[45]⟩) := hN3.cell 2
          have HB3 := Lib.hid (below_then HB1.out HB1.out.size hb3)
          have HZ3 := Lib.hid (HZ.out.keep hb3)
          have HTS := Lib.hid hts
          have H1 := Lib.hid (hasSuffix_any T ⟨#[45, 45, 33]⟩ w3 (by omega))
          have H2 := Lib.hid (hasSuffix_any T ⟨#[45, 45]⟩ w3 (by omega))
          have H3 := Lib.hid (hasSuffix_any T ⟨#[45]⟩ w3 (by omega))
          rw [show B ⟨#[45, 45, 33]⟩ = [45, 45, 33] from rfl] at H1
          rw [show B ⟨#[45, 45]⟩ = [45, 45] from rfl] at H2
          rw [show B ⟨#[45]⟩ = [45] from rfl] at H3
          have hce : Hid (cutEnd (B T) = if endsL (B T) [45, 45, 33] = true then (B T).take ((B T).length - 3) else if endsL (B T) [45, 45] = true then (B T).take ((B T).length - 2) else if endsL (B T) [45] = true then (B T).take ((B T).length - 1) else B T) := rfl
          clear hw3 hb3 hN3 hts
          go_cut [11] (fun s11 wx => s11 = .string (S (cutEnd (B T))) ∧ wx = w3)
          case first =>
            cases he1 : endsL (B T) [45, 45, 33]
            rotate_left
            · rw [he1] at H1
              have HE1 := Lib.hid he1
              clear he1
              have HT := Lib.hid (trimSuffix_any T ⟨#[45, 45, 33]⟩ w3 (by have := HTS.out; omega) HE1.out)
              go_wp2_with fail
              refine wp_loop_rounds 1 ?_
              rw [rounds_succ]
              go_wp2_with fail
              refine H1.out.mono ?_
              rintro e w' ⟨rfl, rfl⟩
              go_wp2_with fail
              refine HT.out.mono ?_
              rintro e w' ⟨rfl, rfl⟩
              go_wp2_with fail
              go_meet
              exact ⟨by rw [hce.out, if_pos HE1.out]; rfl, rfl⟩
            · rw [he1] at H1
              have HE1 := Lib.hid he1
              clear he1
              cases he2 : endsL (B T) [45, 45]
              rotate_left
              · rw [he2] at H2
                have HE2 := Lib.hid he2
                clear he2
                have HT := Lib.hid (trimSuffix_any T ⟨#[45, 45]⟩ w3 (by have := HTS.out; omega) HE2.out)
                go_wp2_with fail
                refine wp_loop_rounds 2 ?_
                rw [rounds_succ]
                go_wp2_with fail
                refine H1.out.mono ?_
                rintro e w' ⟨rfl, rfl⟩
                go_wp2_with fail
                rw [rounds_succ]
                go_wp2_with fail
                refine H2.out.mono ?_
                rintro e w' ⟨rfl, rfl⟩
                go_wp2_with fail
                refine HT.out.mono ?_
                rintro e w' ⟨rfl, rfl⟩
                go_wp2_with fail
                go_meet
                exact ⟨by rw [hce.out, if_neg (by rw [HE1.out]; decide), if_pos HE2.out]; rfl, rfl⟩
              · rw [he2] at H2
                have HE2 := Lib.hid he2
                clear he2
                cases he3 : endsL (B T) [45]
                all_goals
                  rw [he3] at H3
                  have HE3 := Lib.hid he3
                  clear he3
                  go_wp2_with fail
                  refine wp_loop_rounds 4 ?_
                  rw [rounds_succ]
                  go_wp2_with fail
                  refine H1.out.mono ?_
                  rintro e w' ⟨rfl, rfl⟩
                  go_wp2_with fail
                  rw [rounds_succ]
                  go_wp2_with fail
                  refine H2.out.mono ?_
                  rintro e w' ⟨rfl, rfl⟩
                  go_wp2_with fail
                  rw [rounds_succ]
                  go_wp2_with fail
                  refine H3.out.mono ?_
                  rintro e w' ⟨rfl, rfl⟩
                  go_wp2_with fail
                · rw [rounds_succ]
                  go_wp2_with fail
                  go_meet
                  exact ⟨by rw [hce.out, if_neg (by rw [HE1.out]; decide), if_neg (by rw [HE2.out]; decide), if_neg (by rw [HE3.out]; decide), S_B], rfl⟩
                · have HT := Lib.hid (trimSuffix_any T ⟨#[45]⟩ w3 (by have := HTS.out; omega) HE3.out)
                  refine HT.out.mono ?_
                  rintro e w' ⟨rfl, rfl⟩
                  go_wp2_with fail
                  go_meet
                  exact ⟨by rw [hce.out, if_neg (by rw [HE1.out]; decide), if_neg (by rw [HE2.out]; decide), if_pos HE3.out]; rfl, rfl⟩
          case rest =>
            obtain ⟨rfl, rfl⟩ := hcut
            have hcl : (S (cutEnd (B T))).size ≤ 281474976710656 := by
              have h1 : (cutEnd (B T)).length ≤ (B T).length := by
                rw [hce.out]
                repeat' split
                all_goals first | exact Nat.le_refl _ | exact List.length_take_le' _ _
              have h2 := HTS.out
              rw [size_B] at h2
              rw [size_S]
              omega
            go_wp2_with fail
            refine (clone_any _ _ hcl).mono ?_
            rintro e w4 ⟨rfl, b4⟩
            obtain ⟨y0, y1, y2, y3, y4, g0, g1, g2, g3, g4⟩ := var_tok (HZ3.out.keep b4)
            have HB4 := Lib.hid (below_then HB3.out HB3.out.size b4)
            clear b4 hcl
            go_wp2_with fail
            refine bodyPost_ret (v := .tuple #[.agg #[.int .i64 5, .string ⟨#[]⟩, .slice none 0 0, .bool false, .string (S (cutEnd (B T)))], .int .i64 (s.size : Int), .bool true]) (by simp [results, Tryz.results69, go_sem, y0, y1, y2, y3, y4]) rfl
              ⟨ret_mark ?_, set5_below HB4.out (Nat.le_refl _) _ _ _ _ _⟩
            rw [HCE.out, ← size_B]
            simp [valM, tkM, S_nil]
end Go.Proofs.YtdjeajbinpgpiaaGreat
