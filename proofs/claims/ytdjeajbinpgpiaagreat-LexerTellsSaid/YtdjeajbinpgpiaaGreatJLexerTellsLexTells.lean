/- LexerTells, walked. -/
import Derived.Test.YtdjeajbinpgpiaaGreatJLexerTellsLexSame
import Derived.Test.YtdjeajbinpgpiaaGreatJLexerTellsMarkup
namespace Go.Proofs.YtdjeajbinpgpiaaGreat
open Go.RowKit

set_option maxHeartbeats 4000000 in
set_option maxRecDepth 100000 in
theorem walk_LexerTells (a0 : ByteArray) (A : Option Addr) (c : Nat) (l : List Int) (w0 : a0.size ≤ maxLen) (w : World) (hL : Lax w) (hr : Rd w A l.length 1 (l.flatMap enc_int)) (_hlc : l.length ≤ c) (_hcm : c ≤ maxLen) :
    Calls Tryz.prog 4 #[.string a0, .slice A l.length c] w fun e w' => e = .returned (.bool true) ∧ Below w.heap.size w w' := by
  unfold maxLen at w0
  have hh := headB_le a0 120
  have HH := Lib.hid (fun w => head_any a0 120 w (by decide) (by omega))
  rw [show (120 : Int).toNat = 120 from rfl] at HH
  generalize headB a0 120 = h at *
  have HL := Lib.hid hL
  have HR := Lib.hid hr
  have HS0 := Lib.hid (lex_same h w (by omega) hL)
  have q1 : (⟨#[60]⟩ : ByteArray).size + h.size ≤ 9223372036854775807 := by show 1 + _ ≤ _; omega
  have q2 : ((⟨#[60]⟩ : ByteArray) ++ h).size + (⟨#[62]⟩ : ByteArray).size ≤ 9223372036854775807 := by rw [ByteArray.size_append]; show 1 + _ + 1 ≤ _; omega
  have hsz2 : (((⟨#[60]⟩ : ByteArray) ++ h) ++ ⟨#[62]⟩).size ≤ 65534 := by rw [ByteArray.size_append, ByteArray.size_append]; show 1 + _ + 1 ≤ _; omega
  have HZ2 := Lib.hid hsz2
  clear hL w0 hr hsz2
  go_enter Tryz.func4, Tryz.ntmps4
  go_wp2_with fail
  refine (HH.out _).mono ?_
  rintro e w1 ⟨rfl, rfl⟩
  go_wp2_with fail
  refine HS0.out.mono ?_
  rintro e w1 ⟨rfl, b1⟩
  have HB1 := Lib.hid b1
  have HMU := Lib.hid (markup_any 20 (by omega) A c l w1 (HR.out.keep b1))
  clear b1
  go_wp2_with fail
  refine HMU.out.mono ?_
  rintro e w2 ⟨m, g, cap, rfl, hm, hby, b2⟩
  have kc := run_convert_bytes_back (P := Tryz.prog) w2 27 9 5 ⟨g, 0, none⟩ cap (B m) Tryz.underlying27 Tryz.underlying5 Tryz.underlying9 hby
  rw [← size_B, show (⟨(B m).toArray⟩ : ByteArray) = m from S_B m] at kc
  have HB2 := Lib.hid (below_then HB1.out HB1.out.size b2)
  have HS2 := Lib.hid (lex_same m w2 (by omega) (HL.out.below HB2.out))
  clear b2 hby
  go_wp2_with fail
  refine HS2.out.mono ?_
  rintro e w3 ⟨rfl, b3⟩
  have HB3 := Lib.hid (below_then HB2.out HB2.out.size b3)
  have HS3 := Lib.hid (lex_same _ w3 HZ2.out (HL.out.below HB3.out))
  clear b3 kc
  go_wp2_with fail
  refine HS3.out.mono ?_
  rintro e w4 ⟨rfl, b4⟩
  have HB4 := Lib.hid (below_then HB3.out HB3.out.size b4)
  have HK := Lib.hid (lex_known w4 (HL.out.below HB4.out))
  clear b4
  go_wp2_with fail
  refine HK.out.mono ?_
  rintro e w5 ⟨rfl, b5⟩
  have HB5 := Lib.hid (below_then HB4.out HB4.out.size b5)
  clear b5
  go_wp2_with fail
  go_ret
  exact ⟨rfl, HB5.out⟩
end Go.Proofs.YtdjeajbinpgpiaaGreat
