/- Package mark: rubbish, data, doctype: each with what it answers. -/
import Derived.Test.YtjghkiphfpeocaaPl
import Derived.Test.YtjghkiphfpeocaaChars
import Derived.Test.YtjghkiphfpeocaaScanP
import Derived.Laws.ResultCell
namespace Go.Proofs.Ytjghkiphfpeocaa
open Go.RowKit

def tkM (t : Tm) : Value := .agg #[.int .i64 t.kind, .string (S t.name), .slice none 0 0, .bool false, .string (S t.text)]
def valM (r : Mk) : Value := .tuple #[tkM r.1, .int .i64 r.2.1, .bool r.2.2]
theorem S_nil : S [] = ⟨#[]⟩ := rfl
/-- A result's variable: its cells, and that they may be written. -/
theorem var_tok {w : World} {b : Nat} (h : Blk w b 34 #[.int .i64 0, .string ⟨#[]⟩, .slice none 0 0, .bool false, .string ⟨#[]⟩] (0, 0)) : w.cell? ⟨b, 0, none⟩ = some (.int .i64 0) ∧ w.cell? ⟨b, 1, none⟩ = some (.string ⟨#[]⟩) ∧ w.cell? ⟨b, 2, none⟩ = some (.slice none 0 0) ∧ w.cell? ⟨b, 3, none⟩ = some (.bool false) ∧ w.cell? ⟨b, 4, none⟩ = some (.string ⟨#[]⟩) ∧
    (w.frozen? ⟨b, 0, none⟩ = false ∧ w.frozen? ⟨b, 1, none⟩ = false ∧ w.frozen? ⟨b, 2, none⟩ = false ∧ w.frozen? ⟨b, 3, none⟩ = false ∧ w.frozen? ⟨b, 4, none⟩ = false) :=
  ⟨h.cell 0, h.cell 1, h.cell 2, h.cell 3, h.cell 4, h.frozen 0 (.inr (Nat.zero_le _)), h.frozen 1 (.inr (Nat.zero_le _)), h.frozen 2 (.inr (Nat.zero_le _)), h.frozen 3 (.inr (Nat.zero_le _)), h.frozen 4 (.inr (Nat.zero_le _))⟩
theorem set5_below {w w1 : World} {b : Nat} (h : Below w.heap.size w w1) (hb : w.heap.size ≤ b) (u0 u1 u2 u3 u4 : Value) : Below w.heap.size w (((((w1.setCell ⟨b, 0, none⟩ u0).setCell ⟨b, 1, none⟩ u1).setCell ⟨b, 2, none⟩ u2).setCell ⟨b, 3, none⟩ u3).setCell ⟨b, 4, none⟩ u4) :=
  ((((h.setCell hb _).setCell hb _).setCell hb _).setCell hb _).setCell hb _
theorem ret_mark {v : Value} {r : Mk} (h : v = valM r) : Ending.returned v = .returned (valM r) := by rw [h]
theorem min_cast (a b : Nat) : ((min a b : Nat) : Int) = min (a : Int) (b : Int) := by omega

section
variable (s : ByteArray) (k : Nat) (w : World)
theorem findN (sub : ByteArray) (hs : s.size ≤ 65536) (hw : Lax w) (hk : k ≤ s.size) :
    Calls Try.prog 59 #[.string s, .int .i64 (k : Int), .string sub] w fun e w' => e = .returned (.int .i64 (findL (B s) (B sub) k : Nat)) ∧ w = w' := by
  have := find_any s (k : Int) sub w (by omega) hw
  rw [clampN_nat k s.size hk] at this
  exact this
theorem behind_any (hs : s.size ≤ 65536) (hw : Lax w) (hk : k ≤ s.size) :
    Calls Try.prog 66 #[.string s, .int .i64 (k : Int)] w fun e w' => e = .returned (.int .i64 (behindL (B s) k : Nat)) ∧ w = w' := by
  have HF := Lib.hid (findN s k w ⟨#[62]⟩ hs hw hk)
  have h2 := findL_le (B s) [62] k (by rw [← size_B]; exact hk)
  rw [← size_B] at h2
  have hbl : Hid (behindL (B s) k = min (findL (B s) [62] k + 1) s.size) := by show _ = _; unfold behindL; rw [← size_B]
  have HF2 : Hid (Calls Try.prog 59 #[.string s, .int .i64 (k : Int), .string ⟨#[62]⟩] w fun e w' => e = .returned (.int .i64 (findL (B s) [62] k : Nat)) ∧ w = w') := HF.out
  clear HF
  generalize findL (B s) [62] k = f at *
  go_enter Try.func66, Try.ntmps66
  go_wp2_with fail
  refine HF2.out.mono ?_
  rintro e w' ⟨rfl, rfl⟩
  go_wp2_with fail
  all_goals
    go_ret
    refine ⟨ret_int ?_, rfl⟩
    rw [hbl.out]
    omega

set_option maxHeartbeats 1000000 in
theorem rubbish_any (hs : s.size ≤ 65536) (hw : Lax w) (hk : k ≤ s.size) :
    Calls Try.prog 37 #[.string s, .int .i64 (k : Int)] w fun e w' => e = .returned (valM (rubbishM (B s) k)) ∧ Below w.heap.size w w' := by
  have hb0 : Below w.heap.size w (w.alloc (.cells #[.int .i64 0, .string ⟨#[]⟩, .slice none 0 0, .bool false, .string ⟨#[]⟩] 34)) := (Below.refl _ _).alloc (Nat.le_refl _) _
  have HF := findN s k (w.alloc (.cells #[.int .i64 0, .string ⟨#[]⟩, .slice none 0 0, .bool false, .string ⟨#[]⟩] 34)) ⟨#[62]⟩ hs (hw.below hb0) hk
  rw [show B ⟨#[62]⟩ = [62] from rfl] at HF
  have h1 := findL_ge (B s) [62] k (by rw [← size_B]; exact hk)
  have h2 := findL_le (B s) [62] k (by rw [← size_B]; exact hk)
  rw [← size_B] at h2
  have hbl : Hid (rubbishM (B s) k = (⟨5, [], pieceL (B s) k (findL (B s) [62] k)⟩, ((min (findL (B s) [62] k + 1) s.size : Nat) : Int), true)) := by show _ = _; unfold rubbishM behindL; rw [← size_B]
  have HFF := Lib.hid HF
  have hZ := Blk.new w 34 #[.int .i64 0, .string ⟨#[]⟩, .slice none 0 0, .bool false, .string ⟨#[]⟩] (0, 0)
  have HZ := Lib.hid hZ
  have HB0 := Lib.hid hb0
  clear HF hZ hb0
  generalize findL (B s) [62] k = f at *
  go_enter Try.func37, Try.ntmps37
  go_wp2_with fail
  refine HFF.out.mono ?_
  rintro e w' ⟨rfl, rfl⟩
  go_wp2_with fail
  refine (clone_any (s.extract k f) _ (by have := size_extract_le s k f; omega)).mono ?_
  rintro e w2 ⟨rfl, b2⟩
  obtain ⟨z0, z1, z2, z3, z4, f0, f1, f2, f3, f4⟩ := var_tok (HZ.out.keep b2)
  have HB2 := Lib.hid (below_then HB0.out HB0.out.size b2)
  clear b2
  go_wp2_with fail
  refine bodyPost_ret (v := .tuple #[.agg #[.int .i64 5, .string ⟨#[]⟩, .slice none 0 0, .bool false, .string (s.extract k f)], .int .i64 (min ((f : Int) + 1) (s.size : Int)), .bool true]) (by simp [results, Try.results37, go_sem, z0, z1, z2, z3, z4]) rfl
    ⟨ret_mark ?_, set5_below HB2.out (Nat.le_refl _) _ _ _ _ _⟩
  rw [hbl.out]
  simp [valM, tkM, S_piece, S_nil, min_cast]

set_option maxHeartbeats 1000000 in
theorem data_any (hs : s.size ≤ 65536) (hw : Lax w) (hk : k ≤ s.size) :
    Calls Try.prog 36 #[.string s, .int .i64 (k : Int)] w fun e w' => e = .returned (valM (dataM (B s) k)) ∧ Below w.heap.size w w' := by
  have hb0 : Below w.heap.size w (w.alloc (.cells #[.int .i64 0, .string ⟨#[]⟩, .slice none 0 0, .bool false, .string ⟨#[]⟩] 34)) := (Below.refl _ _).alloc (Nat.le_refl _) _
  have hwl := hw.below hb0
  have hZ := Blk.new w 34 #[.int .i64 0, .string ⟨#[]⟩, .slice none 0 0, .bool false, .string ⟨#[]⟩] (0, 0)
  have HZ := Lib.hid hZ
  have HB0 := Lib.hid hb0
  clear hZ hb0
  have HF := findN s k (w.alloc (.cells #[.int .i64 0, .string ⟨#[]⟩, .slice none 0 0, .bool false, .string ⟨#[]⟩] 34)) ⟨#[93, 93, 62]⟩ hs hwl hk
  rw [show B ⟨#[93, 93, 62]⟩ = endC from rfl] at HF
  have h1 := findL_ge (B s) endC k (by rw [← size_B]; exact hk)
  have h2 := findL_le (B s) endC k (by rw [← size_B]; exact hk)
  rw [← size_B] at h2
  have hbl : Hid (dataM (B s) k = (if findL (B s) endC k = k then noTm else ⟨4, [], pieceL (B s) k (findL (B s) endC k)⟩, ((min (findL (B s) endC k + 3) s.size : Nat) : Int), true)) := by show _ = _; unfold dataM; rw [← size_B]
  have HFF := Lib.hid HF
  clear HF hwl hw
  generalize findL (B s) endC k = f at *
  by_cases hfk : f = k
  · have d0 : ((f : Int) == (k : Int)) = true := by rw [hfk]; exact beq_self_eq_true _
    have HFK := Lib.hid hfk
    clear hfk
    obtain ⟨z0, z1, z2, z3, z4, f0, f1, f2, f3, f4⟩ := var_tok HZ.out
    go_enter Try.func36, Try.ntmps36
    go_wp2_with fail
    refine HFF.out.mono ?_
    rintro e w' ⟨rfl, rfl⟩
    go_wp2_with fail
    refine bodyPost_ret (v := .tuple #[.agg #[.int .i64 0, .string ⟨#[]⟩, .slice none 0 0, .bool false, .string ⟨#[]⟩], .int .i64 (min ((f : Int) + 3) (s.size : Int)), .bool true]) (by simp [results, Try.results36, go_sem]) rfl
      ⟨ret_mark ?_, HB0.out⟩
    rw [hbl.out, if_pos HFK.out]
    simp [valM, tkM, noTm, S_nil, min_cast]
  · have d0 : ((f : Int) == (k : Int)) = false := by rw [beq_eq_false_iff_ne]; omega
    have HFK := Lib.hid hfk
    clear hfk
    go_enter Try.func36, Try.ntmps36
    go_wp2_with fail
    refine HFF.out.mono ?_
    rintro e w' ⟨rfl, rfl⟩
    go_wp2_with fail
    refine (clone_any (s.extract k f) _ (by have := size_extract_le s k f; omega)).mono ?_
    rintro e w2 ⟨rfl, b2⟩
    obtain ⟨z0, z1, z2, z3, z4, f0, f1, f2, f3, f4⟩ := var_tok (HZ.out.keep b2)
    have HB2 := Lib.hid (below_then HB0.out HB0.out.size b2)
    clear b2
    go_wp2_with fail
    refine bodyPost_ret (v := .tuple #[.agg #[.int .i64 4, .string ⟨#[]⟩, .slice none 0 0, .bool false, .string (s.extract k f)], .int .i64 (min ((f : Int) + 3) (s.size : Int)), .bool true]) (by simp [results, Try.results36, go_sem, z0, z1, z2, z3, z4]) rfl
      ⟨ret_mark ?_, set5_below HB2.out (Nat.le_refl _) _ _ _ _ _⟩
    rw [hbl.out, if_neg HFK.out]
    simp [valM, tkM, S_piece, S_nil, min_cast]

set_option maxHeartbeats 1000000 in
theorem doctype_any (hs : s.size ≤ 65536) (hw : Lax w) (hk : k ≤ s.size) :
    Calls Try.prog 35 #[.string s, .int .i64 (k : Int)] w fun e w' => e = .returned (valM (doctypeM (B s) k)) ∧ Below w.heap.size w w' := by
  have hb0 : Below w.heap.size w (w.alloc (.cells #[.int .i64 0, .string ⟨#[]⟩, .slice none 0 0, .bool false, .string ⟨#[]⟩] 34)) := (Below.refl _ _).alloc (Nat.le_refl _) _
  have hwl := hw.below hb0
  have hZ := Blk.new w 34 #[.int .i64 0, .string ⟨#[]⟩, .slice none 0 0, .bool false, .string ⟨#[]⟩] (0, 0)
  have HZ := Lib.hid hZ
  have HB0 := Lib.hid hb0
  clear hZ hb0
  have HSK := Lib.hid (fun w => skip_any s (k : Int) w (by omega))
  rw [clampN_nat k s.size hk] at HSK
  have h1 := stopL_ge spaceB (B s) k
  have h2 := stopL_le spaceB (B s) k (by rw [← size_B]; exact hk)
  rw [← size_B] at h2
  rw [show stopL spaceB (B s) k = skipL (B s) k from rfl] at h1 h2
  have hdm : Hid (doctypeM (B s) k = (⟨1, lowL (pieceL (B s) (skipL (B s) k) (untilL (B s) endD (skipL (B s) k))), []⟩, (behindL (B s) (untilL (B s) endD (skipL (B s) k)) : Int), true)) := rfl
  generalize skipL (B s) k = f at *
  have HUN := Lib.hid (fun w => until_any s (f : Int) ⟨#[9, 10, 12, 13, 32, 62]⟩ w (by omega))
  rw [clampN_nat f s.size h2, show B ⟨#[9, 10, 12, 13, 32, 62]⟩ = endD from rfl] at HUN
  have h3 := stopL_ge (fun c => !hasB endD c) (B s) f
  have h4 := stopL_le (fun c => !hasB endD c) (B s) f (by rw [← size_B]; exact h2)
  rw [← size_B] at h4
  rw [show stopL (fun c => !hasB endD c) (B s) f = untilL (B s) endD f from rfl] at h3 h4
  generalize untilL (B s) endD f = t at *
  have HW := Lib.hid hwl
  have HSZ := Lib.hid hs
  clear hwl hw
  go_enter Try.func35, Try.ntmps35
  go_wp2_with fail
  refine (HSK.out _).mono ?_
  rintro e w' ⟨rfl, rfl⟩
  go_wp2_with fail
  refine (HUN.out _).mono ?_
  rintro e w' ⟨rfl, rfl⟩
  go_wp2_with fail
  refine (lower_any (s.extract f t) _ (by have := size_extract_le s f t; omega)).mono ?_
  rintro e w2 ⟨rfl, b2⟩
  have HB2 := Lib.hid (below_then HB0.out HB0.out.size b2)
  have HW2 := Lib.hid (HW.out.below b2)
  obtain ⟨z0, z1, z2, z3, z4, f0, f1, f2, f3, f4⟩ := var_tok (HZ.out.keep b2)
  clear b2
  go_wp2_with fail
  refine (behind_any s t w2 HSZ.out HW2.out h4).mono ?_
  rintro e w' ⟨rfl, rfl⟩
  go_wp2_with fail
  refine bodyPost_ret (v := .tuple #[.agg #[.int .i64 1, .string (S (lowL (B (s.extract f t)))), .slice none 0 0, .bool false, .string ⟨#[]⟩], .int .i64 (behindL (B s) t : Nat), .bool true]) (by simp [results, Try.results35, go_sem, z0, z1, z2, z3, z4]) rfl
    ⟨ret_mark ?_, set5_below HB2.out (Nat.le_refl _) _ _ _ _ _⟩
  rw [hdm.out, B_piece]
  simp [valM, tkM, S_nil, pieceL]
end
end Go.Proofs.Ytjghkiphfpeocaa
