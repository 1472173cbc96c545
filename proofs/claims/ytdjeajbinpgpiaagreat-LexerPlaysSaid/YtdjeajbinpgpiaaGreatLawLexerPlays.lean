/- LexerPlays: for every input the call returns true, and each argument reads behind the call as it read before. Conditions: none beyond the given row's own. -/
import Derived.Test.YtdjeajbinpgpiaaGreatJLexerTells1
import Derived.Test.YtdjeajbinpgpiaaGreatJLexerPlaysLexPlays
namespace Go.Proofs.YtdjeajbinpgpiaaGreat
open Go.ChangeShapes Go.WideShapes Go.ChangeAt Go.RowKit
open Go.ChangeMaps (open_string shut_string)

set_option maxRecDepth 100000 in
theorem lifted_LexerPlays (os : Os) (started : os.Started) (H : Type) (enc : TypeId × Value → H) :
    ReturnsInHanded {} Tryz.checked os 5 .any (Rows.lexerPlaysSpec.pre6 enc Tryz.prog Tryz.f5 Rows.lexerPlaysRow.domain false) (Rows.lexerPlaysSpec.post enc Tryz.prog Tryz.f5 false true false false) := by
  refine returnsInHanded_of_change_shaped (C := Tryz.checked) own_knob started (by kernel_rfl) Tryz.func5
    (ChangeSpec.witness6 (enc := enc) (C := Tryz.checked) false ⟨#[], #[.string ByteArray.empty, .slice none 0 0, .slice none 0 0], []⟩ 8 (by kernel_rfl) (by kernel_rfl) (by kernel_rfl) (by kernel_rfl)) ?_
  intro W base args ds gs before hval0 hW _ _ hsh _
  have hval : ∀ (j : Nat) t v, Tryz.f5.params[j]? = some t → args[j]? = some v → Value.okWide Tryz.prog W .any base t v := hval0
  have hW0 := hW
  obtain ⟨p, q, hA0, hV, rfl, hfz, hnd⟩ := hW0
  have hA : DataW.TrodAll enc Tryz.prog W 0 (fun _ => true) true Tryz.f5.params.toList args.toList ds p := hA0
  rw [Tryz.params5] at hA hval
  obtain ⟨v0, vs0, d0, ds0, p0, q0, hargs, rfl, rfl, h0, r0⟩ := trodAll_cons hA
  obtain ⟨v1, vs1, d1, ds1, p1, q1, rfl, rfl, rfl, h1, r1⟩ := trodAll_cons r0
  obtain ⟨v2, vs2, d2, ds2, p2, q2, rfl, rfl, rfl, h2, r2⟩ := trodAll_cons r1
  obtain ⟨rfl, rfl, rfl⟩ := trodAll_nil r2
  obtain rfl : args = #[v0, v1, v2] := by cases args; simp_all
  obtain ⟨rfl, rfl⟩ := trodVars_none hV
  obtain ⟨a0, rfl, e0, _, w0⟩ := open_string Tryz.underlying9 (hval 0 9 v0 rfl rfl) h0
  obtain ⟨A1, n1, c1, rfl⟩ := okWide_slice Tryz.underlying25 (hval 1 25 v1 rfl rfl)
  obtain ⟨a1, rfl, hr1, hc1, hm1⟩ := rd_ints Tryz.underlying25 Tryz.underlying3 (by kernel_rfl) h1
  obtain ⟨A2, n2, c2, rfl⟩ := okWide_slice Tryz.underlying30 (hval 2 30 v2 rfl rfl)
  obtain ⟨a2, rfl, hr2, hc2, hm2⟩ := rd_lks Tryz.underlying30 Tryz.underlying36 (by kernel_rfl) rfl (fun k hk => by
    match k, hk with
    | 0, _ => exact ⟨_, rfl, rfl, by kernel_rfl, rfl⟩
    | 1, _ => exact ⟨_, rfl, rfl, by kernel_rfl, rfl⟩) ⟨_, rfl, rfl, by kernel_rfl, rfl⟩ Tryz.underlying3 Tryz.underlying4 h2
  have hL : Lax W := Lax.of_shaped hsh
  refine (walk_LexerPlays a0 A1 c1 a1 A2 c2 a2 w0 W hL hr1 hc1 hm1 hr2 hc2 hm2).mono fun e W' ⟨he, hb⟩ => ?_
  subst he
  exact ⟨_, rfl, law_post laid_out rfl (by kernel_rfl) rfl Tryz.underlying4 hW (by rfl) hb⟩

theorem over_LexerPlays : Rows.lexerPlaysRow.holds Tryz.pinned (OpenSpec.ofChange Rows.lexerPlaysSpec) :=
  OpenClaim.holds_of_wide 5 Tryz.f5 rfl rfl rfl rfl rfl rfl rfl ⟨rfl, rfl, rfl, rfl, rfl⟩ rfl rfl rfl rfl rfl (by kernel_rfl) Tryz.func5 (by kernel_rfl)
    (of_decide_eq_true (by kernel_rfl)) (by unfold Func.isWrapper; first | (rw [if_pos (by decide +kernel)]; kernel_rfl) | (rw [if_neg (by decide +kernel)]; exact ⟨rfl, rfl⟩))
    (fun os started H enc _ => lifted_LexerPlays os started H enc)

/-- The statement. -/
theorem proved_LexerPlays : Rows.LexerPlaysSaid := over_LexerPlays
#print axioms proved_LexerPlays
end Go.Proofs.YtdjeajbinpgpiaaGreat
