/- MarkComments, walked. -/
import Derived.Test.YtjghkiphfpeocaaMarkClean
import Derived.Test.YtjghkiphfpeocaaMarkRight
import Derived.Laws.Runes
import Derived.LoopN
import Derived.Deep.CutBlock
import Derived.Deep.DeepCutAuto
namespace Go.Proofs.Ytjghkiphfpeocaa
open Go.RowKit

theorem app_B (a b : ByteArray) : B (a ++ b) = B a ++ B b := by
  unfold B
  simp only [ByteArray.data_append, Array.toList_append]
theorem width_one (s : ByteArray) (pos : Nat) (h : pos < s.size) : 1 ≤ (Utf8.decode s pos).2 := by
  by_cases ha : (s[pos]'h).toNat < 128
  · rw [decode_ascii s pos h ha]
    exact Nat.le_refl _
  · exact (decode_high s pos h (by omega)).2
theorem iter_below (w : World) (s : ByteArray) (pos : Nat) : Below w.heap.size w (w.iter s pos) := (Below.refl _ _).alloc (Nat.le_refl _) _
def doctypeB : ByteArray := ⟨#[60, 33, 100, 111, 99, 116, 121, 112, 101, 32, 104, 116, 109, 108, 62]⟩
theorem doctype_read : (readM (B doctypeB) 0 true).1.name = [104, 116, 109, 108] ∧ (readM (B doctypeB) 0 true).2.1 = 15 ∧ (readM (B doctypeB) 0 true).2.2 = true := by decide +kernel

set_option maxHeartbeats 2000000 in
set_option maxRecDepth 100000 in
theorem walk_MarkComments (a0 a1 : ByteArray) (w0 : a0.size ≤ maxLen) (w1 : a1.size ≤ maxLen) (w : World) (hL : Lax w) :
    Calls Try.prog 8 #[.string a0, .string a1] w fun e w' => e = .returned (.bool true) ∧ Below w.heap.size w w' := by
  unfold maxLen at w0 w1
  have hs := headB_le a0 60
  have hm := headB_le a1 30
  have HL := Lib.hid hL
  have HH := Lib.hid (fun w => head_any a1 30 w (by omega) (by omega))
  rw [show (30 : Int).toNat = 30 from rfl] at HH
  generalize headB a1 30 = m at *
  clear hL
  go_enter Try.func8, Try.ntmps8
  go_wp2_with fail
  refine (head_any _ _ _ (by omega) (by omega)).mono ?_
  rintro e w1 ⟨rfl, rfl⟩
  rw [show (60 : Int).toNat = 60 from rfl]
  generalize headB a0 60 = s at *
  clear w0 w1
  go_wp2_with fail
  go_loopw [5] (fun xv wr => ∃ (pos n : Nat) (x : ByteArray), wr = w.iter s pos ∧ n ≤ pos ∧ n ≤ 60 ∧ x.size ≤ 4 * n ∧ cleanL (B x) ∧ xv = .string x) (fun _ wr => s.size - wr.iterPos w.heap.size)
  case atStart => exact ⟨0, 0, ⟨#[]⟩, rfl, Nat.le_refl _, by omega, Nat.le_refl 0, fun c hc => absurd hc (by simp [B]), rfl⟩
  case round =>
    obtain ⟨pos, n, x, rfl, hn, hn60, hx, hcl, rfl⟩ := hrel
    by_cases hp : pos < s.size
    · have hnx : ∀ ty, (Instr.next (.pointer (some ⟨w.heap.size, 0, none⟩)) true ty).run Try.prog (w.iter s pos) = _ := fun ty => run_next_any w s pos ty hp
      have hwd := width_one s pos hp
      generalize hr : (Utf8.decode s pos).1 = r at *
      generalize (Utf8.decode s pos).2 = wd at *
      have hes := encode_size_le (r : Int)
      have hsum : x.size + (Utf8.encode (r : Int)).size ≤ 9223372036854775807 := by omega
      have HCL := Lib.hid hcl
      clear hcl
      by_cases hbad : r = 45 ∨ r = 62 ∨ r = 33
      · have hcase : ((r : Int) != 45) = false ∨ (((r : Int) != 45) = true ∧ ((r : Int) != 62) = false) ∨ (((r : Int) != 45) = true ∧ ((r : Int) != 62) = true ∧ ((r : Int) != 33) = false) := by
          rcases hbad with rfl | rfl | rfl <;> decide
        clear hbad
        rcases hcase with e1 | ⟨e1, e2⟩ | ⟨e1, e2, e3⟩
        all_goals
          go_wp2_with fail
          exact ⟨⟨pos + wd, n, x, rfl, by omega, hn60, hx, HCL.out, rfl⟩, by simp; omega⟩
      · have e1 : ((r : Int) != 45) = true := by rw [bne_iff_ne]; omega
        have e2 : ((r : Int) != 62) = true := by rw [bne_iff_ne]; omega
        have e3 : ((r : Int) != 33) = true := by rw [bne_iff_ne]; omega
        have hce := clean_enc r (by omega) (by omega) (by omega)
        have HCE := Lib.hid hce
        clear hce
        have hesz : (x ++ Utf8.encode (r : Int)).size ≤ 4 * (n + 1) := by rw [ByteArray.size_append]; omega
        have hcl2 : cleanL (B (x ++ Utf8.encode (r : Int))) := by rw [app_B]; exact clean_app HCL.out HCE.out
        have HC2 := Lib.hid hcl2
        have HZ2 := Lib.hid hesz
        clear hesz hcl2
        go_wp2_with fail
        exact ⟨⟨pos + wd, n + 1, _, rfl, by omega, by omega, HZ2.out, HC2.out, rfl⟩, by simp; omega⟩
    · have hnx : ∀ ty, (Instr.next (.pointer (some ⟨w.heap.size, 0, none⟩)) true ty).run Try.prog (w.iter s pos) = _ := fun ty => run_next_end w s pos ty hp
      have hX : x.size ≤ 240 := by omega
      have hc : B (⟨#[60, 33, 45, 45]⟩ ++ x ++ ⟨#[45, 45, 62]⟩ ++ m) = beginA ++ B x ++ endA ++ B m := by rw [app_B, app_B, app_B]; rfl
      have hz1 : (⟨#[60, 33, 45, 45]⟩ ++ x : ByteArray).size = 4 + x.size := by rw [ByteArray.size_append]; rfl
      have hz2 : (⟨#[60, 33, 45, 45]⟩ ++ x ++ ⟨#[45, 45, 62]⟩ : ByteArray).size = 4 + x.size + 3 := by rw [ByteArray.size_append, hz1]; rfl
      have hz3 : (⟨#[60, 33, 45, 45]⟩ ++ x ++ ⟨#[45, 45, 62]⟩ ++ m : ByteArray).size = 4 + x.size + 3 + m.size := by rw [ByteArray.size_append, hz2]
      have q1 : (⟨#[60, 33, 45, 45]⟩ : ByteArray).size + x.size ≤ 9223372036854775807 := by show 4 + x.size ≤ _; omega
      have q2 : (⟨#[60, 33, 45, 45]⟩ ++ x : ByteArray).size + (⟨#[45, 45, 62]⟩ : ByteArray).size ≤ 9223372036854775807 := by rw [hz1]; show 4 + x.size + 3 ≤ _; omega
      have q3 : (⟨#[60, 33, 45, 45]⟩ ++ x ++ ⟨#[45, 45, 62]⟩ : ByteArray).size + m.size ≤ 9223372036854775807 := by rw [hz2]; omega
      have HB0 := Lib.hid (iter_below w s pos)
      have hread := mread_any (⟨#[60, 33, 45, 45]⟩ ++ x ++ ⟨#[45, 45, 62]⟩ ++ m) 0 false (w.iter s pos) (by rw [hz3]; omega) (HL.out.below HB0.out)
      rw [hc, comment_read _ _ hcl] at hread
      simp only [valM, tkM, S_B, S_nil, ← size_B] at hread
      have HRD := Lib.hid hread
      have HDT : Hid (∀ W, Below w.heap.size w W → ∃ kd tx, Calls Try.prog 22 #[.string ⟨#[60, 33, 100, 111, 99, 116, 121, 112, 101, 32, 104, 116, 109, 108, 62]⟩, .int .i64 0, .bool true] W fun e w' => e = .returned (.tuple #[.agg #[.int .i64 kd, .string ⟨#[104, 116, 109, 108]⟩, .slice none 0 0, .bool false, .string tx], .int .i64 15, .bool true]) ∧ Below W.heap.size W w') := fun W hW => by
        have h := mread_any doctypeB 0 true W (by decide) (HL.out.below hW)
        obtain ⟨k1, k2, k3⟩ := doctype_read
        generalize readM (B doctypeB) 0 true = r at *
        obtain ⟨⟨kd, nm, tx⟩, n, ok⟩ := r
        simp only at k1 k2 k3
        subst k1 k2 k3
        exact ⟨kd, S tx, h⟩
      have HRC := Lib.hid (fun w => right_comment x w)
      have sw : IntKind.i64.wrap ((x.size : Int) + 7) = (x.size : Int) + 7 := IntWalk.i64_in _ (by omega)
      have t1 : (x.toList == x.toList) = true := by simp
      rw [show ((x.size + 7 : Nat) : Int) = (x.size : Int) + 7 by omega] at HRD
      have t2 : ((x.size : Int) + 7 == (x.size : Int) + 7) = true := by simp
      clear hc hz1 hz2 hz3 hread hcl
      go_wp2_with fail
      refine (HH.out _).mono ?_
      rintro e w' ⟨rfl, rfl⟩
      go_wp2_with fail
      refine HRD.out.mono ?_
      rintro e w1 ⟨rfl, b1⟩
      have hA := new_tok w1 (.int .i64 5) (.string ⟨#[]⟩) (.slice none 0 0) (.bool false) (.string x)
      have b2 := (below_then HB0.out HB0.out.size b1).alloc (below_then HB0.out HB0.out.size b1).size (.cells #[.int .i64 5, .string ⟨#[]⟩, .slice none 0 0, .bool false, .string x] 34)
      clear b1
      go_wp2_with fail
      obtain ⟨w2, hw2⟩ : ∃ w2, w2 = w1.alloc (.cells #[.int .i64 5, .string ⟨#[]⟩, .slice none 0 0, .bool false, .string x] 34) := ⟨_, rfl⟩
      rw [← hw2] at hA b2
      rw [show w1.alloc (.cells #[.int .i64 5, .string ⟨#[]⟩, .slice none 0 0, .bool false, .string x] 34) = w2 from hw2.symm]
      clear hw2
      obtain ⟨kd, tx, hd⟩ := HDT.out w2 b2
      refine hd.mono ?_
      rintro e w3 ⟨rfl, b3⟩
      have hA3 := hA.keep b3
      have b03 := below_then b2 b2.size b3
      have b04 := b03.alloc b03.size (.cells #[.int .i64 kd, .string ⟨#[104, 116, 109, 108]⟩, .slice none 0 0, .bool false, .string tx] 34)
      have hA4 := hA3.keep ((Below.refl w3.heap.size w3).alloc (Nat.le_refl _) (.cells #[.int .i64 kd, .string ⟨#[104, 116, 109, 108]⟩, .slice none 0 0, .bool false, .string tx] 34))
      obtain ⟨p0, p1, p2, p3, p4⟩ := cells_tok hA4
      have HB4 := Lib.hid b04
      clear hA hA3 hA4 b2 b3 b03 b04 hd
      go_wp2_with fail
      refine (HRC.out _).mono ?_
      rintro e w5 ⟨rfl, b5⟩
      have HB5 := Lib.hid (below_then HB4.out HB4.out.size b5)
      clear b5
      go_wp2_with fail
      refine (mknown_any _ (HL.out.below HB5.out)).mono ?_
      rintro e w6 ⟨rfl, b6⟩
      have HB6 := Lib.hid (below_then HB5.out HB5.out.size b6)
      clear b6
      go_wp2_with fail
      go_ret
      exact ⟨rfl, HB6.out⟩
end Go.Proofs.Ytjghkiphfpeocaa
