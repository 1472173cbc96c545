/- OpenTexts: for every input the call returns true, and each argument reads behind the call as it read before. Conditions: none beyond the given row's own. -/
import Derived.Test.YtoehpladbdefkaaFrame
import Derived.Test.YtoehpladbdefkaaArgAsks
import Derived.Test.YtoehpladbdefkaaOpenTexts
namespace Go.Proofs.Ytoehpladbdefkaa
open Go.ChangeShapes Go.WideShapes Go.ChangeAt Go.RowKit
open Go.ChangeMaps (open_string shut_string)

set_option maxRecDepth 100000 in
theorem lifted_OpenTexts (os : Os) (started : os.Started) (H : Type) (enc : TypeId × Value → H) :
    ReturnsInHanded {} Try.checked os 5 .any (Rows.openTextsSpec.pre6 enc Try.prog Try.f5 Rows.openTextsRow.domain false) (Rows.openTextsSpec.post enc Try.prog Try.f5 false true false false) := by
  refine returnsInHanded_of_change_shaped (C := Try.checked) own_knob started (by kernel_rfl) Try.func5
    (ChangeSpec.witness6 (enc := enc) (C := Try.checked) false ⟨#[], #[.slice none 0 0, .string ByteArray.empty], []⟩ 8 (by kernel_rfl) (by kernel_rfl) (by kernel_rfl) (by kernel_rfl)) ?_
  intro W base args ds gs before hval0 hW _ hsz _ _
  have hval : ∀ (j : Nat) t v, Try.f5.params[j]? = some t → args[j]? = some v → Value.okWide Try.prog W .any base t v := hval0
  have hW0 := hW
  obtain ⟨p, q, hA0, hV, rfl, hfz, hnd⟩ := hW0
  have hA : DataW.TrodAll enc Try.prog W 0 (fun _ => true) true Try.f5.params.toList args.toList ds p := hA0
  rw [Try.params5] at hA hval
  obtain ⟨v0, vs0, d0, ds0, p0, q0, hargs, rfl, rfl, h0, r0⟩ := trodAll_cons hA
  obtain ⟨v1, vs1, d1, ds1, p1, q1, rfl, rfl, rfl, h1, r1⟩ := trodAll_cons r0
  obtain ⟨rfl, rfl, rfl⟩ := trodAll_nil r1
  obtain rfl : args = #[v0, v1] := by cases args; simp_all
  obtain ⟨rfl, rfl⟩ := trodVars_none hV
  obtain ⟨A0, n0, c0, rfl⟩ := okWide_slice Try.underlying45 (hval 0 45 v0 rfl rfl)
  obtain ⟨a0, rfl, hr0, hc0, hm0⟩ := rd_asks Try.underlying45 Try.underlying53 (by kernel_rfl) rfl (fun k hk => by
    match k, hk with
    | 0, _ => exact ⟨_, rfl, rfl, by kernel_rfl, rfl⟩
    | 1, _ => exact ⟨_, rfl, rfl, by kernel_rfl, rfl⟩
    | 2, _ => exact ⟨_, rfl, rfl, by kernel_rfl, rfl⟩
    | 3, _ => exact ⟨_, rfl, rfl, by kernel_rfl, rfl⟩) ⟨_, rfl, rfl, by kernel_rfl, rfl⟩ Try.underlying3 Try.underlying4 h0
  obtain ⟨a1, rfl, e1, _, w1⟩ := open_string Try.underlying9 (hval 1 9 v1 rfl rfl) h1
  have z1 : a1.size ≤ 140737488351232 := by rw [Lib.size_eq]; exact sized_string (j := 1) hsz rfl (by rw [e1]; rfl)
  refine (walk_OpenTexts A0 c0 a0 a1 z1 W hr0 hc0 hm0).mono fun e W' ⟨he, hb⟩ => ?_
  subst he
  exact ⟨_, rfl, law_post laid_out rfl (by kernel_rfl) rfl Try.underlying4 hW (by rfl) hb⟩

theorem over_OpenTexts : Rows.openTextsRow.holds Try.pinned (OpenSpec.ofChange Rows.openTextsSpec) :=
  OpenClaim.holds_of_wide 5 Try.f5 rfl rfl rfl rfl rfl rfl rfl ⟨rfl, rfl, rfl, rfl, rfl⟩ rfl rfl rfl rfl rfl (by kernel_rfl) Try.func5 (by kernel_rfl)
    (of_decide_eq_true (by kernel_rfl)) (by unfold Func.isWrapper; first | (rw [if_pos (by decide +kernel)]; kernel_rfl) | (rw [if_neg (by decide +kernel)]; exact ⟨rfl, rfl⟩))
    (fun os started H enc _ => lifted_OpenTexts os started H enc)

/-- The statement. -/
theorem proved_OpenTexts : Rows.OpenTextsSaid := over_OpenTexts
#print axioms proved_OpenTexts
end Go.Proofs.Ytoehpladbdefkaa
