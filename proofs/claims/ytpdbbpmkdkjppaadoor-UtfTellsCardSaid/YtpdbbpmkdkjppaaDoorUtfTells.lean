/- UtfTells. -/
import Derived.Test.YtpdbbpmkdkjppaaDoorUtfK
namespace Go.Proofs.YtpdbbpmkdkjppaaDoor
open Go.RowKit

set_option maxHeartbeats 2000000 in
set_option maxRecDepth 100000 in
theorem walk_UtfTells (A0 : Option Addr) (c0 : Nat) (a0 : List UInt8) (A1 : Option Addr) (c1 : Nat) (a1 : List Int) (W : World) (hT : Tabs W) (h0 : RdB W A0 c0 a0) (h1 : RdR W A1 c1 a1) (hb : ∀ x ∈ a1, -2147483648 ≤ x ∧ x ≤ 2147483647) :
    Calls Tryd.prog 4 #[.slice A0 a0.length c0, .slice A1 a1.length c1] W fun e w' => e = .returned (.bool true) ∧ Below W.heap.size W w' := by
  have HC : Hid (Calls Tryd.prog 10 #[.slice A0 a0.length c0, .int .i64 400] W fun e w' => e = .returned (.slice A0 (a0.take 400).length c0) ∧ W = w') := cut_any W A0 c0 a0 h0 400 (by decide)
  have h0t : RdB W A0 c0 (a0.take 400) := by
    by_cases h : 400 ≤ a0.length
    · exact h0.take 400 h
    · rw [List.take_of_length_le (by omega)]; exact h0
  have HS := Lib.hid (same_any W A0 c0 (a0.take 400) h0t (by rw [List.length_take]; omega) hT)
  have HT := Lib.hid hT
  have hcap := h1.2.1
  have hmax : c1 ≤ 9223372036854775807 := h1.2.2
  have hsplit : (decide ((100 : Int) < (a1.length : Int)) = true ∧ ∃ b o, A1 = some ⟨b, o, none⟩ ∧ RdR W A1 c1 (a1.take 100) ∧ (a1.take 100).length = 100 ∧ 100 ≤ c1) ∨ (decide ((100 : Int) < (a1.length : Int)) = false ∧ a1.length ≤ 100) := by
    by_cases h : 100 < a1.length
    · obtain ⟨b, o, e, _⟩ := h1.cell (by omega)
      exact .inl ⟨decide_eq_true (by omega), b, o, e, h1.take 100 (by omega), by rw [List.length_take]; omega, by omega⟩
    · exact .inr ⟨decide_eq_false (by omega), by omega⟩
  have H1 := Lib.hid h1
  have HBn := Lib.hid hb
  clear h0 h0t h1 hb hT
  rcases hsplit with ⟨d0, b, o, rfl, hr, hl, hc100⟩ | ⟨d0, hl⟩
  · have HR := Lib.hid hr
    have HL := Lib.hid hl
    clear hr hl
    generalize a0.length = n0 at *
    generalize (a0.take 400).length = m0 at *
    generalize a1.length = n1 at *
    go_enter Tryd.func4, Tryd.ntmps4
    go_wp2_with (first
      | (go_at_call 10; with_reducible refine HC.out.mono ?_; rintro e w' ⟨rfl, rfl⟩)
      | (go_at_call 8
         with_reducible refine HS.out.mono ?_
         rintro e w1 ⟨rfl, hb1⟩
         have HB1 := Lib.hid hb1
         have he := encode_any w1 _ c1 (a1.take 100) (HR.out.keep hb1) (by have := HL.out; omega) (fun x hx => HBn.out x (List.mem_of_mem_take hx))
         rw [HL.out] at he
         have HE := Lib.hid he
         clear hb1 he)
      | (go_at_call 11
         with_reducible refine HE.out.mono ?_
         rintro e w2 ⟨rfl, hb2⟩
         have HB2 := Lib.hid (HB1.out.trans (hb2.mono HB1.out.size))
         have he := encode_ref w2 _ c1 (a1.take 100) (HR.out.keep HB2.out) (by have := HL.out; omega)
         rw [HL.out] at he
         have HE2 := Lib.hid he
         have HK := Lib.hid (known_any w2 (HT.out.keep HB2.out))
         clear hb2 he)
      | (go_at_call 12; with_reducible refine HE2.out.mono ?_; rintro e w' ⟨rfl, rfl⟩)
      | (go_at_call 9
         with_reducible refine HK.out.mono ?_
         rintro e w3 ⟨rfl, hb3⟩
         have HB3 := Lib.hid (HB2.out.trans (hb3.mono HB2.out.size))
         clear hb3))
    go_ret
    exact ⟨rfl, HB3.out⟩
  · generalize hn1 : a1.length = n1 at *
    have HL := Lib.hid hn1
    clear hn1
    generalize a0.length = n0 at *
    generalize (a0.take 400).length = m0 at *
    go_enter Tryd.func4, Tryd.ntmps4
    go_wp2_with (first
      | (go_at_call 10; with_reducible refine HC.out.mono ?_; rintro e w' ⟨rfl, rfl⟩)
      | (go_at_call 8
         with_reducible refine HS.out.mono ?_
         rintro e w1 ⟨rfl, hb1⟩
         have HB1 := Lib.hid hb1
         have he := encode_any w1 _ c1 a1 (H1.out.keep hb1) (by have := HL.out; omega) HBn.out
         rw [HL.out] at he
         have HE := Lib.hid he
         clear hb1 he)
      | (go_at_call 11
         with_reducible refine HE.out.mono ?_
         rintro e w2 ⟨rfl, hb2⟩
         have HB2 := Lib.hid (HB1.out.trans (hb2.mono HB1.out.size))
         have he := encode_ref w2 _ c1 a1 (H1.out.keep HB2.out) (by have := HL.out; omega)
         rw [HL.out] at he
         have HE2 := Lib.hid he
         have HK := Lib.hid (known_any w2 (HT.out.keep HB2.out))
         clear hb2 he)
      | (go_at_call 12; with_reducible refine HE2.out.mono ?_; rintro e w' ⟨rfl, rfl⟩)
      | (go_at_call 9
         with_reducible refine HK.out.mono ?_
         rintro e w3 ⟨rfl, hb3⟩
         have HB3 := Lib.hid (HB2.out.trans (hb3.mono HB2.out.size))
         clear hb3))
    go_ret
    exact ⟨rfl, HB3.out⟩
end Go.Proofs.YtpdbbpmkdkjppaaDoor
