/- LexerNumbers, walked (printed by wip/tools/genlexnum.py). -/
import Derived.Test.YtdjeajbinpgpiaaGreatJLexerTellsLexSame
import Derived.Test.YtdjeajbinpgpiaaGreatJLexerTellsLit
import Derived.LoopN
namespace Go.Proofs.YtdjeajbinpgpiaaGreat
open Go.RowKit

def lexN : List ByteArray := [⟨#[60, 116, 105, 116, 108, 101, 62, 97, 60, 98, 62, 38, 108, 116, 59, 60, 47, 116, 105, 116, 108, 101, 32, 120, 62, 121]⟩, ⟨#[97, 32, 60, 32, 98, 32, 38, 97, 109, 112, 59, 32, 99]⟩, ⟨#[60, 112]⟩, ⟨#[120, 60, 112]⟩, ⟨#[60, 115, 99, 114, 105, 112, 116, 62, 60, 112, 62, 60, 47, 115, 99, 114, 105, 112, 116, 121, 62, 60, 47, 83, 67, 82, 73, 80, 84, 32, 62, 122]⟩, ⟨#[60, 112, 108, 97, 105, 110, 116, 101, 120, 116, 62, 60, 47, 112, 108, 97, 105, 110, 116, 101, 120, 116, 62, 38, 108, 116, 59]⟩, ⟨#[60, 116, 101, 120, 116, 97, 114, 101, 97, 62, 38, 97, 109, 112, 59, 60, 47, 116, 101, 120, 116, 97, 114, 101, 97, 47, 62]⟩, ⟨#[60, 47, 62, 97, 60, 47, 62]⟩, ⟨#[60, 115, 116, 121, 108, 101, 62, 60, 47, 115, 116, 121, 108, 101, 62]⟩, ⟨#[97, 60, 33, 45, 45, 98, 45, 45, 62, 99, 60, 33, 100, 62]⟩, ⟨#[60, 33, 91, 67, 68, 65, 84, 65, 91, 120, 93, 93, 62]⟩, ⟨#[38, 38, 38]⟩, ⟨#[60, 60, 97, 62]⟩, ⟨#[60, 47, 32, 120, 62]⟩, ⟨#[60, 120, 109, 112, 62, 60, 33, 45, 45, 60, 47, 120, 109, 112, 62, 45, 45, 62, 60, 47, 120, 109, 112, 62]⟩]
theorem lexN_at (i : Nat) (hi : i < 15) : ∃ x, lexN[i]? = some x ∧ x.size ≤ 40 :=
  ⟨_, List.getElem?_eq_getElem (show i < lexN.length from hi), (by decide : ∀ x ∈ lexN, x.size ≤ 40) _ (List.getElem_mem _)⟩
set_option maxHeartbeats 2000000 in
set_option maxRecDepth 100000 in
theorem walk_LexerNumbers (w : World) (hL : Lax w) :
    Calls Tryz.prog 3 #[] w fun e w' => e = .returned (.bool true) ∧ Below w.heap.size w w' := by
  have HL := Lib.hid hL
  clear hL
  have hr := rd_lit w 9 lexN
  rw [show lexN.length = 15 from rfl] at hr
  have hb := (Below.refl w.heap.size w).alloc (Nat.le_refl _) (.cells (strs lexN).toArray 9)
  have HR := Lib.hid hr
  have HB := Lib.hid hb
  clear hr hb
  go_enter Tryz.func3, Tryz.ntmps3
  go_wp2_with fail
  obtain ⟨wa, hwa⟩ : ∃ wa, wa = w.alloc (.cells #[.string ⟨#[60, 116, 105, 116, 108, 101, 62, 97, 60, 98, 62, 38, 108, 116, 59, 60, 47, 116, 105, 116, 108, 101, 32, 120, 62, 121]⟩, .string ⟨#[97, 32, 60, 32, 98, 32, 38, 97, 109, 112, 59, 32, 99]⟩, .string ⟨#[60, 112]⟩, .string ⟨#[120, 60, 112]⟩, .string ⟨#[60, 115, 99, 114, 105, 112, 116, 62, 60, 112, 62, 60, 47, 115, 99, 114, 105, 112, 116, 121, 62, 60, 47, 83, 67, 82, 73, 80, 84, 32, 62, 122]⟩, .string ⟨#[60, 112, 108, 97, 105, 110, 116, 101, 120, 116, 62, 60, 47, 112, 108, 97, 105, 110, 116, 101, 120, 116, 62, 38, 108, 116, 59]⟩, .string ⟨#[60, 116, 101, 120, 116, 97, 114, 101, 97, 62, 38, 97, 109, 112, 59, 60, 47, 116, 101, 120, 116, 97, 114, 101, 97, 47, 62]⟩, .string ⟨#[60, 47, 62, 97, 60, 47, 62]⟩, .string ⟨#[60, 115, 116, 121, 108, 101, 62, 60, 47, 115, 116, 121, 108, 101, 62]⟩, .string ⟨#[97, 60, 33, 45, 45, 98, 45, 45, 62, 99, 60, 33, 100, 62]⟩, .string ⟨#[60, 33, 91, 67, 68, 65, 84, 65, 91, 120, 93, 93, 62]⟩, .string ⟨#[38, 38, 38]⟩, .string ⟨#[60, 60, 97, 62]⟩, .string ⟨#[60, 47, 32, 120, 62]⟩, .string ⟨#[60, 120, 109, 112, 62, 60, 33, 45, 45, 60, 47, 120, 109, 112, 62, 45, 45, 62, 60, 47, 120, 109, 112, 62]⟩] 9) := ⟨_, rfl⟩
  rw [show w.alloc (.cells (strs lexN).toArray 9) = wa from hwa.symm] at HR HB
  rw [show w.alloc (.cells #[.string ⟨#[60, 116, 105, 116, 108, 101, 62, 97, 60, 98, 62, 38, 108, 116, 59, 60, 47, 116, 105, 116, 108, 101, 32, 120, 62, 121]⟩, .string ⟨#[97, 32, 60, 32, 98, 32, 38, 97, 109, 112, 59, 32, 99]⟩, .string ⟨#[60, 112]⟩, .string ⟨#[120, 60, 112]⟩, .string ⟨#[60, 115, 99, 114, 105, 112, 116, 62, 60, 112, 62, 60, 47, 115, 99, 114, 105, 112, 116, 121, 62, 60, 47, 83, 67, 82, 73, 80, 84, 32, 62, 122]⟩, .string ⟨#[60, 112, 108, 97, 105, 110, 116, 101, 120, 116, 62, 60, 47, 112, 108, 97, 105, 110, 116, 101, 120, 116, 62, 38, 108, 116, 59]⟩, .string ⟨#[60, 116, 101, 120, 116, 97, 114, 101, 97, 62, 38, 97, 109, 112, 59, 60, 47, 116, 101, 120, 116, 97, 114, 101, 97, 47, 62]⟩, .string ⟨#[60, 47, 62, 97, 60, 47, 62]⟩, .string ⟨#[60, 115, 116, 121, 108, 101, 62, 60, 47, 115, 116, 121, 108, 101, 62]⟩, .string ⟨#[97, 60, 33, 45, 45, 98, 45, 45, 62, 99, 60, 33, 100, 62]⟩, .string ⟨#[60, 33, 91, 67, 68, 65, 84, 65, 91, 120, 93, 93, 62]⟩, .string ⟨#[38, 38, 38]⟩, .string ⟨#[60, 60, 97, 62]⟩, .string ⟨#[60, 47, 32, 120, 62]⟩, .string ⟨#[60, 120, 109, 112, 62, 60, 33, 45, 45, 60, 47, 120, 109, 112, 62, 45, 45, 62, 60, 47, 120, 109, 112, 62]⟩] 9) = wa from hwa.symm]
  clear hwa
  go_loopw [6] (fun iv wr => ∃ i : Nat, i ≤ 15 ∧ iv = .int .i64 i ∧ Rd wr (some ⟨w.heap.size, 0, none⟩) 15 1 (strs lexN) ∧ Below w.heap.size w wr) (fun iv _ => 15 - (intOf iv).toNat)
  case atStart => exact ⟨0, by omega, rfl, HR.out, HB.out⟩
  case round =>
    obtain ⟨i, hi, rfl, hr, hb⟩ := hrel
    have HR1 := Lib.hid hr
    have HB1 := Lib.hid hb
    clear hr hb HR HB
    by_cases hlt : i < 15
    · have d0 : decide ((i : Int) < 15) = true := decide_eq_true (by omega)
      obtain ⟨s, hx, hsz⟩ := lexN_at i hlt
      obtain ⟨ad, e, hc⟩ := HR1.out.2.2 (by decide)
      cases e
      have k1 := strs_at hc hx
      rw [add0] at k1
      have s1 : IntKind.i64.wrap ((i : Int) + 1) = (i : Int) + 1 := IntWalk.i64_in _ (by omega)
      clear hc hx
      go_wp2_with fail
      go_loopw [3] (fun kv wr2 => ∃ k : Nat, k ≤ s.size + 1 ∧ kv = .int .i64 k ∧ Below wr.heap.size wr wr2) (fun kv _ => s.size + 1 - (intOf kv).toNat)
      case atStart => exact ⟨0, by omega, rfl, Below.refl _ _⟩
      case round =>
        obtain ⟨k, hk, rfl, hb2⟩ := hrel
        have HB2 := Lib.hid hb2
        clear hb2
        by_cases hkl : k ≤ s.size
        · have d1 : decide ((k : Int) ≤ (s.size : Int)) = true := decide_eq_true (by omega)
          have hb02 := Lib.hid (below_then HB1.out HB1.out.size HB2.out)
          have hex := size_extract_le s 0 k
          have S1 := Lib.hid (lex_same (s.extract 0 k) _ (by omega) (HL.out.below hb02.out))
          have s2 : IntKind.i64.wrap ((k : Int) + 1) = (k : Int) + 1 := IntWalk.i64_in _ (by omega)
          go_wp2_with fail
          refine S1.out.mono ?_
          rintro e w1 ⟨rfl, b1⟩
          have HB4 := Lib.hid (below_then HB2.out HB2.out.size b1)
          clear b1
          go_wp2_with fail
          exact ⟨⟨k + 1, by omega, by go_num, HB4.out⟩, by simp [intOf]; omega⟩
        · have d1 : decide ((k : Int) ≤ (s.size : Int)) = false := decide_eq_false (by omega)
          go_wp2_with fail
          exact ⟨⟨i + 1, by omega, by go_num, HR1.out.keep HB2.out, below_then HB1.out HB1.out.size HB2.out⟩, by simp [intOf]; omega⟩
    · have d0 : decide ((i : Int) < 15) = false := decide_eq_false (by omega)
      have HK := Lib.hid (lex_known wr (HL.out.below HB1.out))
      go_wp2_with fail
      refine HK.out.mono ?_
      rintro e w3 ⟨rfl, b1⟩
      have HB5 := Lib.hid (below_then HB1.out HB1.out.size b1)
      clear b1
      go_wp2_with fail
      go_ret
      exact ⟨rfl, HB5.out⟩
end Go.Proofs.YtdjeajbinpgpiaaGreat
