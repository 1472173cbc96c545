/- Tokens of marks held against one another; mark.Read against the document. -/
import Derived.Test.YtjghkiphfpeocaaMarkRef
import Derived.Test.YtjghkiphfpeocaaAttrs
import Derived.Test.YtjghkiphfpeocaaLit
namespace Go.Proofs.Ytjghkiphfpeocaa
open Go.RowKit

/-- A token's cells. -/
theorem cells_tok {w : World} {b : Nat} {u0 u1 u2 u3 u4 : Value} (h : Blk w b 34 #[u0, u1, u2, u3, u4] (0, 0)) : w.cell? ⟨b, 0, none⟩ = some u0 ∧ w.cell? ⟨b, 1, none⟩ = some u1 ∧ w.cell? ⟨b, 2, none⟩ = some u2 ∧ w.cell? ⟨b, 3, none⟩ = some u3 ∧ w.cell? ⟨b, 4, none⟩ = some u4 :=
  ⟨h.cell 0, h.cell 1, h.cell 2, h.cell 3, h.cell 4⟩
/-- The same for cells that stand as a world was made. -/
theorem new_tok (w : World) (u0 u1 u2 u3 u4 : Value) : Blk (w.alloc (.cells #[u0, u1, u2, u3, u4] 34)) w.heap.size 34 #[u0, u1, u2, u3, u4] (0, 0) := Blk.new w _ _ _

set_option maxHeartbeats 1000000 in
theorem token_keep (t : Tm) (w : World) :
    Calls Try.prog 24 #[tkM t, tkM t] w fun e w' => e = .returned (.bool true) ∧ Below w.heap.size w w' := by
  obtain ⟨kd, nm, tx⟩ := t
  simp only [tkM]
  generalize S nm = nm
  generalize S tx = tx
  have hb0 := ((Below.refl w.heap.size w).alloc (Nat.le_refl _) (.cells #[.int .i64 kd, .string nm, .slice none 0 0, .bool false, .string tx] 34)).alloc (by simp) (.cells #[.int .i64 kd, .string nm, .slice none 0 0, .bool false, .string tx] 34)
  have HB0 := Lib.hid hb0
  have hA0 := (new_tok w (.int .i64 kd) (.string nm) (.slice none 0 0) (.bool false) (.string tx)).keep ((Below.refl _ _).alloc (Nat.le_refl _) (.cells #[.int .i64 kd, .string nm, .slice none 0 0, .bool false, .string tx] 34))
  have hA1 := new_tok (w.alloc (.cells #[.int .i64 kd, .string nm, .slice none 0 0, .bool false, .string tx] 34)) (.int .i64 kd) (.string nm) (.slice none 0 0) (.bool false) (.string tx)
  rw [show (w.alloc (.cells #[.int .i64 kd, .string nm, .slice none 0 0, .bool false, .string tx] 34)).heap.size = w.heap.size + 1 by simp] at hA1
  have HA0 := Lib.hid hA0
  have HA1 := Lib.hid hA1
  clear hb0 hA0 hA1
  have HA : Hid (∀ w, Calls Try.prog 43 #[.slice none 0 0, .slice none 0 0] w fun e w' => e = .returned (.bool true) ∧ Below w.heap.size w w') := fun w =>
    (attrs_keep w none none 0 0 0 0 [] [] (RdA.nil' w) (RdA.nil' w) (by decide)).mono fun _ _ ⟨h, h'⟩ => ⟨h.trans (ret_bool (decide_eq_true rfl)), h'⟩
  have t1 : (nm.toList == nm.toList) = true := by simp
  have t2 : (tx.toList == tx.toList) = true := by simp
  have t3 : (kd == kd) = true := by simp
  go_enter Try.func24, Try.ntmps24
  go_wp2_with fail
  refine (HA.out _).mono ?_
  rintro e w1 ⟨rfl, b1⟩
  obtain ⟨p0, p1, p2, p3, p4⟩ := cells_tok (HA0.out.keep b1)
  obtain ⟨q0, q1, q2, q3, q4⟩ := cells_tok (HA1.out.keep b1)
  have HB1 := Lib.hid (below_then HB0.out HB0.out.size b1)
  clear b1
  go_wp2_with fail
  go_ret
  exact ⟨rfl, HB1.out⟩

set_option maxHeartbeats 1000000 in
theorem msame_any (s : ByteArray) (at_ : Int) (fo : Bool) (w : World) (hs : s.size ≤ 65536) (hw : Lax w) :
    Calls Try.prog 10 #[.string s, .int .i64 at_, .bool fo] w fun e w' => e = .returned (.bool true) ∧ Below w.heap.size w w' := by
  have HM := Lib.hid (mread_any s at_ fo w hs hw)
  have HR := Lib.hid (fun w => rread_any s at_ fo w hs)
  generalize readM (B s) at_ fo = r at *
  obtain ⟨⟨kd, nm, tx⟩, n, ok⟩ := r
  have HT := Lib.hid (fun w => token_keep ⟨kd, nm, tx⟩ w)
  simp only [valM, tkM] at HM HR HT
  generalize S nm = nm at *
  generalize S tx = tx at *
  have t1 : (n == n) = true := by simp
  have t2 : (ok == ok) = true := by simp
  clear hs hw
  go_enter Try.func10, Try.ntmps10
  go_wp2_with fail
  refine HM.out.mono ?_
  rintro e w1 ⟨rfl, b1⟩
  have hA0 := new_tok w1 (.int .i64 kd) (.string nm) (.slice none 0 0) (.bool false) (.string tx)
  have b2 := b1.alloc b1.size (.cells #[.int .i64 kd, .string nm, .slice none 0 0, .bool false, .string tx] 34)
  go_wp2_with fail
  obtain ⟨w2, hw2⟩ : ∃ w2, w2 = w1.alloc (.cells #[.int .i64 kd, .string nm, .slice none 0 0, .bool false, .string tx] 34) := ⟨_, rfl⟩
  rw [← hw2] at hA0 b2
  rw [show w1.alloc (.cells #[.int .i64 kd, .string nm, .slice none 0 0, .bool false, .string tx] 34) = w2 from hw2.symm]
  clear hw2 b1
  refine (HR.out _).mono ?_
  rintro e w3 ⟨rfl, b3⟩
  have hA3 := hA0.keep b3
  have b03 := below_then b2 b2.size b3
  clear b2 b3 hA0
  have hA4 := hA3.keep ((Below.refl _ _).alloc (Nat.le_refl _) (.cells #[.int .i64 kd, .string nm, .slice none 0 0, .bool false, .string tx] 34))
  have b04 := b03.alloc b03.size (.cells #[.int .i64 kd, .string nm, .slice none 0 0, .bool false, .string tx] 34)
  obtain ⟨p0, p1, p2, p3, p4⟩ := cells_tok hA4
  have HB4 := Lib.hid b04
  clear hA3 hA4 b03 b04
  go_wp2_with fail
  refine (HT.out _).mono ?_
  rintro e w5 ⟨rfl, b5⟩
  have HB5 := Lib.hid (below_then HB4.out HB4.out.size b5)
  clear b5
  go_wp2_with fail
  go_ret
  exact ⟨rfl, HB5.out⟩

def knownB : ByteArray := ⟨#[60, 33, 45, 45, 97, 45, 45, 33, 62, 98]⟩
theorem known_read : (readM (B knownB) 0 false).1.kind = 5 ∧ (readM (B knownB) 0 false).1.text = [97] ∧ (readM (B knownB) 0 false).2.1 = 9 ∧ (readM (B knownB) 0 false).2.2 = true := by decide +kernel
set_option maxHeartbeats 1000000 in
theorem mknown_any (w : World) (hw : Lax w) :
    Calls Try.prog 11 #[] w fun e w' => e = .returned (.bool true) ∧ Below w.heap.size w w' := by
  have HM := Lib.hid (mread_any knownB 0 false w (by decide) hw)
  obtain ⟨k0, k1, k2, k3⟩ := known_read
  generalize readM (B knownB) 0 false = r at *
  obtain ⟨⟨kd, nm, tx⟩, n, ok⟩ := r
  simp only at k0 k1 k2 k3
  subst k0 k1 k2 k3
  simp only [valM, tkM] at HM
  rw [show S [97] = ⟨#[97]⟩ from rfl, show knownB = ⟨#[60, 33, 45, 45, 97, 45, 45, 33, 62, 98]⟩ from rfl] at HM
  generalize S nm = nm at *
  clear hw
  go_enter Try.func11, Try.ntmps11
  go_wp2_with fail
  refine HM.out.mono ?_
  rintro e w1 ⟨rfl, b1⟩
  have HB1 := Lib.hid (b1.alloc b1.size (.cells #[.int .i64 5, .string nm, .slice none 0 0, .bool false, .string ⟨#[97]⟩] 34))
  clear b1
  go_wp2_with fail
  go_ret
  exact ⟨rfl, HB1.out⟩

def piecesN : List ByteArray := [⟨#[45]⟩, ⟨#[45, 45]⟩, ⟨#[62]⟩, ⟨#[33]⟩, ⟨#[97]⟩, ⟨#[32]⟩, ⟨#[93, 93, 62]⟩, ⟨#[93]⟩, ⟨#[100, 111, 99, 116, 121, 112, 101]⟩, ⟨#[68, 111, 99, 84, 121, 112, 101]⟩, ⟨#[104, 116, 109, 108]⟩, ⟨#[91, 67, 68, 65, 84, 65, 91]⟩, ⟨#[63]⟩, ⟨#[60]⟩, ⟨#[45, 45, 33, 62]⟩, ⟨#[10]⟩]
/-- The text that a number stands for. -/
def pieceAt (n : Int) : ByteArray := piecesN[((withinI n 0 1048576).toNat % 16)]?.getD ⟨#[]⟩
theorem pieceAt_in (n : Int) : pieceAt n ∈ piecesN := by
  unfold pieceAt
  have h : (withinI n 0 1048576).toNat % 16 < piecesN.length := Nat.mod_lt _ (by decide)
  rw [List.getElem?_eq_getElem h]
  exact List.getElem_mem h
theorem pieceAt_len (n : Int) : (pieceAt n).size ≤ 7 := by
  have h : ∀ x ∈ piecesN, x.size ≤ 7 := by decide
  exact h _ (pieceAt_in n)
theorem piece_any (n : Int) (w : World) :
    Calls Try.prog 14 #[.int .i64 n] w fun e w' => e = .returned (.string (pieceAt n)) ∧ Below w.heap.size w w' := by
  have hb := withinI_bd n 0 1048576 (by omega)
  have hr := rd_lit w 9 piecesN
  obtain ⟨ad, e, hc⟩ := hr.2.2 (by decide)
  cases e
  have hx : piecesN[((withinI n 0 1048576).toNat % 16)]? = some (pieceAt n) := by
    have h : (withinI n 0 1048576).toNat % 16 < piecesN.length := Nat.mod_lt _ (by decide)
    unfold pieceAt
    rw [List.getElem?_eq_getElem h]; rfl
  have k1 := strs_at hc hx
  generalize pieceAt n = x at *
  generalize hW : withinI n 0 1048576 = i at *
  obtain ⟨k, rfl⟩ : ∃ k : Nat, i = (k : Int) := ⟨i.toNat, by omega⟩
  have e1 : (k : Int).tmod 16 = ((k % 16 : Nat) : Int) := by
    rw [Int.tmod_eq_emod_of_nonneg (by omega)]; omega
  simp only [Int.toNat_natCast] at k1
  have HK := Lib.hid k1
  have hlt : k % 16 < 16 := Nat.mod_lt _ (by decide)
  have HW := Lib.hid hW
  have HLI := Lib.hid ((Below.refl w.heap.size w).alloc (Nat.le_refl _) (.cells (strs piecesN).toArray 9))
  clear hc hr k1 hx hW
  go_enter Try.func14, Try.ntmps14
  go_wp2_with fail
  refine (bwithin_any n 0 1048576 _ (by omega) (by omega) (by omega)).mono ?_
  rintro e w1 ⟨rfl, rfl⟩
  rw [HW.out]
  have k2 : (w.alloc (.cells #[.string ⟨#[45]⟩, .string ⟨#[45, 45]⟩, .string ⟨#[62]⟩, .string ⟨#[33]⟩, .string ⟨#[97]⟩, .string ⟨#[32]⟩, .string ⟨#[93, 93, 62]⟩, .string ⟨#[93]⟩, .string ⟨#[100, 111, 99, 116, 121, 112, 101]⟩, .string ⟨#[68, 111, 99, 84, 121, 112, 101]⟩, .string ⟨#[104, 116, 109, 108]⟩, .string ⟨#[91, 67, 68, 65, 84, 65, 91]⟩, .string ⟨#[63]⟩, .string ⟨#[60]⟩, .string ⟨#[45, 45, 33, 62]⟩, .string ⟨#[10]⟩] 9)).cell? ⟨w.heap.size, k % 16, none⟩ = some (.string x) := by rw [← add0]; exact HK.out
  have hb1 : Below w.heap.size w (w.alloc (.cells #[.string ⟨#[45]⟩, .string ⟨#[45, 45]⟩, .string ⟨#[62]⟩, .string ⟨#[33]⟩, .string ⟨#[97]⟩, .string ⟨#[32]⟩, .string ⟨#[93, 93, 62]⟩, .string ⟨#[93]⟩, .string ⟨#[100, 111, 99, 116, 121, 112, 101]⟩, .string ⟨#[68, 111, 99, 84, 121, 112, 101]⟩, .string ⟨#[104, 116, 109, 108]⟩, .string ⟨#[91, 67, 68, 65, 84, 65, 91]⟩, .string ⟨#[63]⟩, .string ⟨#[60]⟩, .string ⟨#[45, 45, 33, 62]⟩, .string ⟨#[10]⟩] 9)) := HLI.out
  have HB1 := Lib.hid hb1
  clear hb1 HLI HK
  go_wp2_with fail
  go_ret
  exact ⟨rfl, HB1.out⟩
end Go.Proofs.Ytjghkiphfpeocaa
