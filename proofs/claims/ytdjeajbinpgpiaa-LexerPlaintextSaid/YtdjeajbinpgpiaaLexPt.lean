/- Behind plaintext all is one text: the plain law, and LexerPlaintext, walked. -/
import Derived.Test.YtdjeajbinpgpiaaLexA0
import Derived.Test.YtdjeajbinpgpiaaKeepH
namespace Go.Proofs.Ytdjeajbinpgpiaa
open Go.RowKit

def preT : List UInt8 := [60, 112, 108, 97, 105, 110, 116, 101, 120, 116, 62]
def ptB : ByteArray := ⟨#[112, 108, 97, 105, 110, 116, 101, 120, 116]⟩
theorem toks_plaintext (y : List UInt8) (hy : y ≠ []) : tokensL (preT ++ y) = [⟨2, ptB, [], false, ⟨#[]⟩⟩, txtT y, eofT] := by
  have hpl : preT.length = 11 := rfl
  have hyl : 0 < y.length := List.length_pos_iff.2 hy
  have hlen : (preT ++ y).length = 11 + y.length := by rw [List.length_append, hpl]
  have hp : readT preT 0 = (⟨2, [112, 108, 97, 105, 110, 116, 101, 120, 116], [], false⟩, 11, true) := by rfl
  have hr : readT (preT ++ y) 0 = readT preT 0 := tag_same (n := 11) (a := preT) (b := preT ++ y) ⟨by decide, by rw [hlen]; omega, by rw [List.take_append_of_le_length (by decide)]⟩ (by rw [hp]) (by rw [hp]; rfl)
  have hn1 : nextL (preT ++ y) startL = (⟨2, ptB, [], false, ⟨#[]⟩⟩, ⟨11, 1, false, ptB⟩) := by
    unfold nextL
    rw [if_neg (by rw [hlen]; show ¬ _ ≤ 0; omega), if_neg (by decide), if_neg (by decide)]
    show ((dataX (preT ++ y) false 0).1, afterL startL (dataX (preT ++ y) false 0)) = _
    rw [dataX_step _ _ 0 (Nat.zero_le _), if_neg (by rw [hlen]; omega)]
    rw [show ((0 : Nat) : Int) = 0 from rfl, hr, hp, if_pos rfl]
    rfl
  have hg1 : goL (preT ++ y) startL = ⟨11, 4, false, ptB⟩ := by
    unfold goL
    rw [hn1]
    rfl
  have hn2 : nextL (preT ++ y) ⟨11, 4, false, ptB⟩ = (txtT y, ⟨11 + y.length, 4, false, ptB⟩) := by
    unfold nextL
    rw [if_neg (by rw [hlen]; show ¬ _ ≤ 11; omega), if_neg (by decide), if_pos rfl]
    show (txtT ((preT ++ y).drop 11), _) = _
    rw [List.drop_left' hpl, hlen]
  have hg2 : goL (preT ++ y) ⟨11, 4, false, ptB⟩ = ⟨11 + y.length, 4, false, ptB⟩ := by
    unfold goL
    rw [hn2, if_neg (by show ¬ (4 : Int) = 2; decide)]
  have hn3 : nextL (preT ++ y) ⟨11 + y.length, 4, false, ptB⟩ = (eofT, ⟨11 + y.length, 4, false, ptB⟩) := by
    unfold nextL
    rw [if_pos (by rw [hlen]; exact Nat.le_refl _)]
  rw [tokensL_toks, toksL_step _ _ (Nat.zero_le _), hn1, if_neg (by show ¬ (2 : Int) = 6; decide), hg1, toksL_step _ _ (by rw [hlen]; show 11 ≤ _; omega), hn2, if_neg (by show ¬ (4 : Int) = 6; decide), hg2,
    toksL_step _ _ (by rw [hlen]; exact Nat.le_refl _), hn3, if_pos (by show (6 : Int) = 6; rfl)]
def tailB : ByteArray := ⟨#[60, 47, 112, 108, 97, 105, 110, 116, 101, 120, 116, 62, 38, 97, 109, 112, 59]⟩
def preB : ByteArray := ⟨#[60, 112, 108, 97, 105, 110, 116, 101, 120, 116, 62]⟩
theorem B_app (a b : ByteArray) : B (a ++ b) = B a ++ B b := by
  unfold B
  simp only [ByteArray.data_append, Array.toList_append]
set_option maxHeartbeats 4000000 in
theorem walk_LexerPlaintext (a0 : ByteArray) (w0 : a0.size ≤ maxLen) (w : World) (hL : Lax w) :
    Calls Try.prog 5 #[.string a0] w fun e w' => e = .returned (.bool true) ∧ Below w.heap.size w w' := by
  unfold maxLen at w0
  have hh := headB_le a0 60
  have HH := Lib.hid (fun w => head_any a0 60 w (by decide) (by omega))
  rw [show (60 : Int).toNat = 60 from rfl] at HH
  generalize headB a0 60 = h at *
  have z1 : preB.size = 11 := rfl
  have z2 : tailB.size = 17 := rfl
  have hs1 : (preB ++ h).size ≤ 71 := by rw [ByteArray.size_append]; omega
  have hs2 : ((preB ++ h) ++ tailB).size ≤ 88 := by rw [ByteArray.size_append]; omega
  have hB : B ((preB ++ h) ++ tailB) = preT ++ B (h ++ tailB) := by
    rw [B_app, B_app, B_app, List.append_assoc]; rfl
  have HA := Lib.hid (lall_any ((preB ++ h) ++ tailB) w (by omega) hL)
  have hne : B (h ++ tailB) ≠ [] := fun e => by
    have h1 : (h ++ tailB).size = 0 := by rw [size_B, e]; rfl
    rw [ByteArray.size_append] at h1
    omega
  rw [hB, toks_plaintext (B (h ++ tailB)) hne] at HA
  have hSS : S (B (h ++ tailB)) = h ++ tailB := S_B _
  have q1 : preB.size + h.size ≤ 9223372036854775807 := by omega
  have q2 : (preB ++ h).size + tailB.size ≤ 9223372036854775807 := by omega
  have q3 : h.size + tailB.size ≤ 9223372036854775807 := by omega
  have t1 : ((h ++ tailB).toList == (h ++ tailB).toList) = true := by simp
  have HKN := Lib.hid (fun W (hW : Below w.heap.size w W) => lex_known W (hL.below hW))
  have e0 : (ptB.toList == [112, 108, 97, 105, 110, 116, 101, 120, 116]) = true := by decide +kernel
  unfold preB tailB at *
  clear hL hB w0 hne
  go_enter Try.func5, Try.ntmps5
  go_wp2_with fail
  refine (HH.out _).mono ?_
  rintro e w1 ⟨rfl, rfl⟩
  go_wp2_with fail
  refine HA.out.mono ?_
  rintro e w1 ⟨v, out, rfl, hr, hm, b1⟩
  obtain ⟨m0, m1, m2, rfl, h0, h1, h2⟩ := three_of hm
  obtain ⟨g, c, rfl, hc⟩ := hr.at (by simp)
  have c0 : w1.cell? ⟨g, 1, none⟩ = some (.string ptB) := by have := (hc 0 m0 rfl).2.1; rw [h0] at this; exact this
  have c1 : w1.cell? ⟨g, 5, none⟩ = some (.int .i64 4) := by have := (hc 1 m1 rfl).1; rw [h1] at this; exact this
  have c2 : w1.cell? ⟨g, 9, none⟩ = some (.string (h ++ ⟨#[60, 47, 112, 108, 97, 105, 110, 116, 101, 120, 116, 62, 38, 97, 109, 112, 59]⟩)) := by have := (hc 1 m1 rfl).2.2; rw [h1] at this; unfold txtT at this; rw [hSS] at this; exact this
  have c3 : w1.cell? ⟨g, 10, none⟩ = some (.int .i64 6) := by have := (hc 2 m2 rfl).1; rw [h2] at this; exact this
  have HB := Lib.hid b1
  clear hr hm hc b1 h0 h1 h2 hSS
  go_wp2_with fail
  refine (HKN.out _ HB.out).mono ?_
  rintro e w2 ⟨rfl, b2⟩
  have HB2 := Lib.hid (below_then HB.out HB.out.size b2)
  clear b2
  go_wp2_with fail
  go_ret
  exact ⟨rfl, HB2.out⟩
end Go.Proofs.Ytdjeajbinpgpiaa
