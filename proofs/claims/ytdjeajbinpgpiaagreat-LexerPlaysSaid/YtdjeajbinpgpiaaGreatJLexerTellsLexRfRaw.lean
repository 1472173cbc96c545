/- arbourref6.Raw. -/
import Derived.Test.YtdjeajbinpgpiaaGreatJLexerTellsLexA0
namespace Go.Proofs.YtdjeajbinpgpiaaGreat
open Go.RowKit

set_option maxHeartbeats 4000000 in
theorem rfraw_any (nm : ByteArray) (w : World) :
    Calls Tryz.prog 34 #[.string nm, .bool false] w fun e w' => e = .returned (.int .i64 (rawMode nm)) ∧ w = w' := by
  have hr : Hid (rawMode nm = if nm = ⟨#[116, 101, 120, 116, 97, 114, 101, 97]⟩ ∨ nm = ⟨#[116, 105, 116, 108, 101]⟩ then 2
    else if nm = ⟨#[115, 99, 114, 105, 112, 116]⟩ ∨ nm = ⟨#[115, 116, 121, 108, 101]⟩ ∨ nm = ⟨#[120, 109, 112]⟩ then 3
    else if nm = ⟨#[112, 108, 97, 105, 110, 116, 101, 120, 116]⟩ then 4 else 1) := rfl
  obtain ⟨RM, hRM⟩ : ∃ r, rawMode nm = r := ⟨_, rfl⟩
  rw [hRM] at hr ⊢
  clear hRM
  by_cases h1 : nm = ⟨#[116, 101, 120, 116, 97, 114, 101, 97]⟩
  · have e1 : (nm.toList == [116, 101, 120, 116, 97, 114, 101, 97]) = true := eq_list h1
    have HR := Lib.hid (show RM = 2 by have := hr.out; rwa [if_pos (.inl h1)] at this)
    clear hr h1
    go_enter Tryz.func34, Tryz.ntmps34
    go_wp2_with fail
    go_ret
    exact ⟨by rw [HR.out]; rfl, rfl⟩
  have e1 : (nm.toList == [116, 101, 120, 116, 97, 114, 101, 97]) = false := ne_list h1
  by_cases h2 : nm = ⟨#[116, 105, 116, 108, 101]⟩
  · have e2 : (nm.toList == [116, 105, 116, 108, 101]) = true := eq_list h2
    have HR := Lib.hid (show RM = 2 by have := hr.out; rwa [if_pos (.inr h2)] at this)
    clear hr h1 h2
    go_enter Tryz.func34, Tryz.ntmps34
    go_wp2_with fail
    go_ret
    exact ⟨by rw [HR.out]; rfl, rfl⟩
  have e2 : (nm.toList == [116, 105, 116, 108, 101]) = false := ne_list h2
  have hn2 : ¬ (nm = ⟨#[116, 101, 120, 116, 97, 114, 101, 97]⟩ ∨ nm = ⟨#[116, 105, 116, 108, 101]⟩) := by rintro (e | e); exact h1 e; exact h2 e
  have hr2 := hr.out
  rw [if_neg hn2] at hr2
  have HR2 := Lib.hid hr2
  clear hr hr2 hn2 h1 h2
  by_cases h3 : nm = ⟨#[115, 99, 114, 105, 112, 116]⟩
  · have e3 : (nm.toList == [115, 99, 114, 105, 112, 116]) = true := eq_list h3
    have HR := Lib.hid (show RM = 3 by have := HR2.out; rwa [if_pos (.inl h3)] at this)
    clear h3
    go_enter Tryz.func34, Tryz.ntmps34
    go_wp2_with fail
    go_ret
    exact ⟨by rw [HR.out]; rfl, rfl⟩
  have e3 : (nm.toList == [115, 99, 114, 105, 112, 116]) = false := ne_list h3
  by_cases h4 : nm = ⟨#[115, 116, 121, 108, 101]⟩
  · have e4 : (nm.toList == [115, 116, 121, 108, 101]) = true := eq_list h4
    have HR := Lib.hid (show RM = 3 by have := HR2.out; rwa [if_pos (.inr (.inl h4))] at this)
    clear h3 h4
    go_enter Tryz.func34, Tryz.ntmps34
    go_wp2_with fail
    go_ret
    exact ⟨by rw [HR.out]; rfl, rfl⟩
  have e4 : (nm.toList == [115, 116, 121, 108, 101]) = false := ne_list h4
  by_cases h5 : nm = ⟨#[120, 109, 112]⟩
  · have e5 : (nm.toList == [120, 109, 112]) = true := eq_list h5
    have HR := Lib.hid (show RM = 3 by have := HR2.out; rwa [if_pos (.inr (.inr h5))] at this)
    clear h3 h4 h5
    go_enter Tryz.func34, Tryz.ntmps34
    go_wp2_with fail
    go_ret
    exact ⟨by rw [HR.out]; rfl, rfl⟩
  have e5 : (nm.toList == [120, 109, 112]) = false := ne_list h5
  have hn5 : ¬ (nm = ⟨#[115, 99, 114, 105, 112, 116]⟩ ∨ nm = ⟨#[115, 116, 121, 108, 101]⟩ ∨ nm = ⟨#[120, 109, 112]⟩) := by rintro (e | e | e); exact h3 e; exact h4 e; exact h5 e
  have hr3 := HR2.out
  rw [if_neg hn5] at hr3
  have HR3 := Lib.hid hr3
  clear HR2 hr3 hn5 h3 h4 h5
  have hns : (nm.toList == [110, 111, 115, 99, 114, 105, 112, 116]) = true ∨ (nm.toList == [110, 111, 115, 99, 114, 105, 112, 116]) = false := by
    cases (nm.toList == [110, 111, 115, 99, 114, 105, 112, 116]) <;> simp
  by_cases h6 : nm = ⟨#[112, 108, 97, 105, 110, 116, 101, 120, 116]⟩
  · have e6 : (nm.toList == [112, 108, 97, 105, 110, 116, 101, 120, 116]) = true := eq_list h6
    have e7 : (nm.toList == [110, 111, 115, 99, 114, 105, 112, 116]) = false := by rw [h6]; decide +kernel
    have HR := Lib.hid (show RM = 4 by have := HR3.out; rwa [if_pos h6] at this)
    clear h6 hns
    go_enter Tryz.func34, Tryz.ntmps34
    go_wp2_with fail
    go_ret
    exact ⟨by rw [HR.out]; rfl, rfl⟩
  · have e6 : (nm.toList == [112, 108, 97, 105, 110, 116, 101, 120, 116]) = false := ne_list h6
    have HR := Lib.hid (show RM = 1 by have := HR3.out; rwa [if_neg h6] at this)
    clear h6
    rcases hns with e7 | e7
    all_goals
      go_enter Tryz.func34, Tryz.ntmps34
      go_wp2_with fail
      go_ret
      exact ⟨by rw [HR.out]; rfl, rfl⟩

end Go.Proofs.YtdjeajbinpgpiaaGreat
