/- OpenPlays: for every input the call returns true, and each argument reads behind the call as it read before. Conditions: none beyond the given row's own. -/
import Derived.Test.YtoehpladbdefkaaFrame
import Derived.Test.YtoehpladbdefkaaArgAsks
import Derived.Test.YtoehpladbdefkaaOpenPlays
namespace Go.Proofs.Ytoehpladbdefkaa
open Go.ChangeShapes Go.WideShapes Go.ChangeAt Go.RowKit
open Go.ChangeMaps (open_string shut_string)

set_option maxRecDepth 100000 in
theorem lifted_OpenPlays (os : Os) (started : os.Started) (H : Type) (enc : TypeId × Value → H) :
    ReturnsInHanded {} Try.checked os 11 .any (Rows.openPlaysSpec.pre6 enc Try.prog Try.f11 Rows.openPlaysRow.domain false) (Rows.openPlaysSpec.post enc Try.prog Try.f11 false true false false) := by
  refine returnsInHanded_of_change_shaped (C := Try.checked) own_knob started (by kernel_rfl) Try.func11
    (ChangeSpec.witness6 (enc := enc) (C := Try.checked) false ⟨#[], #[.slice none 0 0], []⟩ 8 (by kernel_rfl) (by kernel_rfl) (by kernel_rfl) (by kernel_rfl)) ?_
  intro W base args ds gs before hval0 hW _ _ _ _
  have hval : ∀ (j : Nat) t v, Try.f11.params[j]? = some t → args[j]? = some v → Value.okWide Try.prog W .any base t v := hval0
  have hW0 := hW
  obtain ⟨p, q, hA0, hV, rfl, hfz, hnd⟩ := hW0
  have hA : DataW.TrodAll enc Try.prog W 0 (fun _ => true) true Try.f11.params.toList args.toList ds p := hA0
  rw [Try.params11] at hA hval
  obtain ⟨v0, vs0, d0, ds0, p0, q0, hargs, rfl, rfl, h0, r0⟩ := trodAll_cons hA
  obtain ⟨rfl, rfl, rfl⟩ := trodAll_nil r0
  obtain rfl : args = #[v0] := by cases args; simp_all
  obtain ⟨rfl, rfl⟩ := trodVars_none hV
  obtain ⟨A0, n0, c0, rfl⟩ := okWide_slice Try.underlying45 (hval 0 45 v0 rfl rfl)
  obtain ⟨a0, rfl, hr0, hc0, hm0⟩ := rd_asks Try.underlying45 Try.underlying53 (by kernel_rfl) rfl (fun k hk => by
    match k, hk with
    | 0, _ => exact ⟨_, rfl, rfl, by kernel_rfl, rfl⟩
    | 1, _ => exact ⟨_, rfl, rfl, by kernel_rfl, rfl⟩
    | 2, _ => exact ⟨_, rfl, rfl, by kernel_rfl, rfl⟩
    | 3, _ => exact ⟨_, rfl, rfl, by kernel_rfl, rfl⟩) ⟨_, rfl, rfl, by kernel_rfl, rfl⟩ Try.underlying3 Try.underlying4 h0
  refine (walk_OpenPlays A0 c0 a0 W hr0 hc0 hm0).mono fun e W' ⟨he, hb⟩ => ?_
  subst he
  exact ⟨_, rfl, law_post laid_out rfl (by kernel_rfl) rfl Try.underlying4 hW (by rfl) hb⟩

theorem over_OpenPlays : Rows.openPlaysRow.holds Try.pinned (OpenSpec.ofChange Rows.openPlaysSpec) :=
  OpenClaim.holds_of_wide 11 Try.f11 rfl rfl rfl rfl rfl rfl rfl ⟨rfl, rfl, rfl, rfl, rfl⟩ rfl rfl rfl rfl rfl (by kernel_rfl) Try.func11 (by kernel_rfl)
    (of_decide_eq_true (by kernel_rfl)) (by unfold Func.isWrapper; first | (rw [if_pos (by decide +kernel)]; kernel_rfl) | (rw [if_neg (by decide +kernel)]; exact ⟨rfl, rfl⟩))
    (fun os started H enc _ => lifted_OpenPlays os started H enc)

/-- The statement. -/
theorem proved_OpenPlays : Rows.OpenPlaysSaid := over_OpenPlays
#print axioms proved_OpenPlays
end Go.Proofs.Ytoehpladbdefkaa
