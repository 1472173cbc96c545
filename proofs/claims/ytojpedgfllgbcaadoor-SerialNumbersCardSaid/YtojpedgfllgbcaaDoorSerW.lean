/- serial.within: a node's kids are pushed, the first one on top. -/
import Derived.Test.YtojpedgfllgbcaaDoorSerN
import Derived.Test.YtojpedgfllgbcaaDoorStkJob
import Derived.Test.YtojpedgfllgbcaaDoorBoth
namespace Go.Proofs.YtojpedgfllgbcaaDoor
open Go.RowKit

abbrev JV := Option Addr × Bool × ByteArray
/-- What a pile's thing stands for. -/
def JobOk (w : World) (x : JV) : Job → Prop
  | .node raw l k => ∃ a, x = (some a, raw, ⟨#[]⟩) ∧ NodeAt w a l k
  | .fin s => x = (none, false, s)
abbrev JobsOk (w : World) (vs : List JV) (js : List Job) : Prop := Top (JobOk w) vs js
theorem jobs_drop {raw tmpl : Bool} {l : List (Lab × Fo)} {m : Nat} {x : Lab × Fo} (h : l[m]? = some x) : jobsF raw tmpl (l.drop m) = (if shown tmpl x = true then [Job.node raw x.1 x.2] else []) ++ jobsF raw tmpl (l.drop (m + 1)) := by
  obtain ⟨hl, hx⟩ := List.getElem?_eq_some_iff.1 h
  rw [List.drop_eq_getElem_cons hl, hx, jobsF_cons]

set_option maxHeartbeats 2000000 in
set_option maxRecDepth 100000 in
theorem within_any (w0 w : World) (p : Nat) (v : Value) (vs : List JV) (js : List Job) (a : Addr) (l : Lab) (k : Fo) (scr : Bool) (hP : Pile_job w p v vs) (hJ : JobsOk w0 vs js) (hN : NodeAt w0 a l k) (hB : Below w0.heap.size w0 w)
    (hf : ∀ g, foot p v g → w0.heap.size ≤ g) (hsz : vs.length + k.len + 1 ≤ 4398046511104) :
    Calls Tryd.prog 64 #[.pointer (some ⟨p, 0, none⟩), .pointer (some a), .bool scr] w fun e w' => ∃ v' vs', e = .returned (.tuple #[]) ∧ Pile_job w' p v' vs' ∧ JobsOk w0 vs' (jobsF (verbL scr l) (tmplL l) k.toL ++ js) ∧ But (foot p v) w w' ∧ Grown w v v' := by
  obtain ⟨b, o, sp⟩ := a
  obtain ⟨rfl, q, hq, c0, c1, c2, -, -, c5⟩ := hN.lit
  have hlen : k.toL.length = k.len := rfl
  have HG : Hid (∀ {m : Nat} {x : Lab × Fo}, k.toL[m]? = some x → ∃ ad, q.K = some ad ∧ NodeAt w0 (ad.add (m * 6)) x.1 x.2 ∧ ∀ wr, Below w0.heap.size w0 wr → wr.cell? (ad.add (m * 6)) = some (.int .i64 x.1.kind)) := fun hm => by
    obtain ⟨ad, h1, h2⟩ := hq.2.get hm
    exact ⟨ad, h1, h2, fun wr hb => cell_keep hb h2.kind⟩
  have HN := Lib.hid hN
  have HJ := Lib.hid hJ
  have HP := Lib.hid hP
  have HF := Lib.hid hf
  have HB := Lib.hid hB
  obtain ⟨n, hn⟩ : ∃ n, k.len = n := ⟨_, rfl⟩
  rw [hn] at hsz hlen c5
  have HL := Lib.hid hlen
  have hnb : n ≤ 4398046511104 := by omega
  have HC : Hid (∀ wr, Below w0.heap.size w0 wr → wr.cell? ⟨b, o, none⟩ = some (.int .i64 l.kind) ∧ wr.cell? ⟨b, o + 1, none⟩ = some (.int .i64 l.ns) ∧ wr.cell? ⟨b, o + 2, none⟩ = some (.string l.name) ∧ wr.cell? ⟨b, o + 5, none⟩ = some (.slice q.K n q.d)) := fun wr hb =>
    ⟨cell_keep hb c0, cell_keep hb c1, cell_keep hb c2, cell_keep hb c5⟩
  have HV : Hid (∀ wr, Below w0.heap.size w0 wr → Calls Tryd.prog 83 #[.pointer (some ⟨b, o, none⟩), .bool scr] wr fun e w' => e = .returned (.bool (verbL scr l)) ∧ wr = w') := fun wr hb => verbatim_any wr _ l k scr (HN.out.keep hb)
  clear hN hJ hP hf hB hlen hn hq c0 c1 c2 c5
  obtain ⟨c0, c1, c2, c5⟩ := HC.out w HB.out
  have i0 : IntKind.i64.wrap ((n : Int) - 1) = (n : Int) - 1 := IntWalk.i64_in _ (by omega)
  cases ht : tmplL l
  · have hway : ((l.kind == 3) = false) ∨ ((l.kind == 3) = true ∧ (l.ns == 1) = false) ∨ ((l.kind == 3) = true ∧ (l.ns == 1) = true ∧ (l.name.toList == [116, 101, 109, 112, 108, 97, 116, 101]) = false) := by
      have e : templN.toList = [116, 101, 109, 112, 108, 97, 116, 101] := by decide +kernel
      rw [← e]
      unfold tmplL at ht
      cases h1 : (l.kind == 3)
      · exact .inl rfl
      · cases h2 : (l.ns == 1)
        · exact .inr (.inl ⟨rfl, rfl⟩)
        · rw [h1, h2] at ht
          exact .inr (.inr ⟨rfl, rfl, by simpa using ht⟩)
    have HVC := Lib.hid (HV.out w HB.out)
    clear ht
    obtain ⟨raw, hraw⟩ : ∃ raw, verbL scr l = raw := ⟨_, rfl⟩
    rw [hraw] at HVC
    rw [hraw]
    clear hraw HV
    rcases hway with h1 | ⟨h1, h2⟩ | ⟨h1, h2, h3⟩
    all_goals
      go_enter Tryd.func64, Tryd.ntmps64
      go_wp2_with (go_at_call 83; with_reducible refine HVC.out.mono ?_; rintro e w1 ⟨rfl, rfl⟩)
      go_loopw [8] (fun iv wr => ∃ (m : Nat) (i : Int) (v1 : Value) (vs1 : List JV), m ≤ n ∧ i + 1 = m ∧ iv = .int .i64 i ∧ Pile_job wr p v1 vs1 ∧ JobsOk w0 vs1 (jobsF raw false (k.toL.drop m) ++ js) ∧ But (foot p v) w wr ∧ Grown w v v1 ∧ vs1.length + m ≤ vs.length + n) (fun iv _ => (intOf iv + 1).toNat)
      case atStart => exact ⟨n, (n : Int) - 1, v, vs, Nat.le_refl _, by omega, rfl, HP.out, by rw [List.drop_of_length_le (by rw [HL.out]; exact Nat.le_refl _)]; exact HJ.out, But.refl _ _, Grown.refl _ _, Nat.le_refl _⟩
      case round =>
        obtain ⟨m, i, v1, vs1, hm, him, rfl, hp1, hj1, hb1, hg1, hl1⟩ := hrel
        have hbw : Below w0.heap.size w0 wr := HB.out.trans (hb1.below HF.out HB.out.size)
        obtain ⟨c0, c1, c2, c5⟩ := HC.out wr hbw
        have HP1 := Lib.hid hp1
        have HJ1 := Lib.hid hj1
        have HB1 := Lib.hid hb1
        have HG1 := Lib.hid hg1
        have HBW := Lib.hid hbw
        clear hp1 hj1 hb1 hg1 hbw
        by_cases hm0 : m = 0
        · subst hm0
          obtain rfl : i = -1 := by omega
          have d0 : decide ((-1 : Int) ≥ 0) = false := by decide
          go_wp2_with fail
          refine bodyPost_end (v := .tuple #[]) (results_none rfl _ _ _) rfl ?_
          exact ⟨_, _, rfl, HP1.out, HJ1.out, HB1.out, HG1.out⟩
        · obtain ⟨m, rfl⟩ : ∃ j, m = j + 1 := ⟨m - 1, by omega⟩
          obtain rfl : i = (m : Int) := by omega
          have hlt : m < n := by omega
          have d0 : decide ((m : Int) ≥ 0) = true := decide_eq_true (by omega)
          have i1 : IntKind.i64.wrap ((m : Int) - 1) = (m : Int) - 1 := IntWalk.i64_in _ (by omega)
          obtain ⟨x, hx⟩ : ∃ x, k.toL[m]? = some x := ⟨_, List.getElem?_eq_getElem (by rw [HL.out]; omega)⟩
          obtain ⟨ad, hK, hnx, hkx⟩ := HG.out hx
          have kx := hkx wr HBW.out
          rw [hK] at c5
          have HX := Lib.hid hx
          have HNX := Lib.hid hnx
          clear hx hnx hkx hK him
          have HPU : Hid (Calls Tryd.prog 70 #[.pointer (some ⟨p, 0, none⟩), .agg #[.pointer (some (ad.add (m * 6))), .bool raw, .string ⟨#[]⟩]] wr fun e w' => ∃ v', e = .returned (.tuple #[]) ∧ Pile_job w' p v' (vs1 ++ [(some (ad.add (m * 6)), raw, ⟨#[]⟩)]) ∧ But (foot p v1) wr w' ∧ Grown wr v1 v') :=
            push_job wr p v1 vs1 (some (ad.add (m * 6)), raw, ⟨#[]⟩) HP1.out (by omega)
          go_wp2_with (go_at_call 70; with_reducible refine HPU.out.mono ?_; rintro e w1 ⟨v2, rfl, hp2, hb2, hg2⟩)
          refine ⟨⟨m, (m : Int) - 1, v2, _, by omega, by omega, by first | exact True.intro | rfl, hp2, ?_, HB1.out.trans hb2 (fun g hg => HG1.out.foot p hg), HG1.out.trans HB1.out.size hg2, by rw [List.length_append, List.length_singleton]; omega⟩, by simp [intOf]⟩
          rw [jobs_drop HX.out, if_pos (by unfold shown; simp)]
          exact HJ1.out.push ⟨_, rfl, HNX.out⟩
  · have h1 : (l.kind == 3) = true := by unfold tmplL at ht; simp only [Bool.and_eq_true] at ht; exact ht.1.1
    have h2 : (l.ns == 1) = true := by unfold tmplL at ht; simp only [Bool.and_eq_true] at ht; exact ht.1.2
    have h3 : (l.name.toList == [116, 101, 109, 112, 108, 97, 116, 101]) = true := by
      have e : templN.toList = [116, 101, 109, 112, 108, 97, 116, 101] := by decide +kernel
      rw [← e]
      unfold tmplL at ht; simp only [Bool.and_eq_true] at ht; exact ht.2
    have hv : verbL scr l = false := tmpl_verb ht
    rw [hv]
    clear ht hv
    go_enter Tryd.func64, Tryd.ntmps64
    go_wp2_with fail
    go_loopw [6] (fun iv wr => ∃ (m : Nat) (i : Int) (v1 : Value) (vs1 : List JV), m ≤ n ∧ i + 1 = m ∧ iv = .int .i64 i ∧ Pile_job wr p v1 vs1 ∧ JobsOk w0 vs1 (jobsF false true (k.toL.drop m) ++ js) ∧ But (foot p v) w wr ∧ Grown w v v1 ∧ vs1.length + m ≤ vs.length + n) (fun iv _ => (intOf iv + 1).toNat)
    case atStart => exact ⟨n, (n : Int) - 1, v, vs, Nat.le_refl _, by omega, rfl, HP.out, by rw [List.drop_of_length_le (by rw [HL.out]; exact Nat.le_refl _)]; exact HJ.out, But.refl _ _, Grown.refl _ _, Nat.le_refl _⟩
    case round =>
      obtain ⟨m, i, v1, vs1, hm, him, rfl, hp1, hj1, hb1, hg1, hl1⟩ := hrel
      have hbw : Below w0.heap.size w0 wr := HB.out.trans (hb1.below HF.out HB.out.size)
      obtain ⟨c0, c1, c2, c5⟩ := HC.out wr hbw
      have HP1 := Lib.hid hp1
      have HJ1 := Lib.hid hj1
      have HB1 := Lib.hid hb1
      have HG1 := Lib.hid hg1
      have HBW := Lib.hid hbw
      clear hp1 hj1 hb1 hg1 hbw
      by_cases hm0 : m = 0
      · subst hm0
        obtain rfl : i = -1 := by omega
        have d0 : decide ((-1 : Int) ≥ 0) = false := by decide
        go_wp2_with fail
        refine bodyPost_ret (v := .tuple #[]) (results_none rfl _ _ _) rfl ?_
        exact ⟨_, _, rfl, HP1.out, HJ1.out, HB1.out, HG1.out⟩
      · obtain ⟨m, rfl⟩ : ∃ j, m = j + 1 := ⟨m - 1, by omega⟩
        obtain rfl : i = (m : Int) := by omega
        have hlt : m < n := by omega
        have d0 : decide ((m : Int) ≥ 0) = true := decide_eq_true (by omega)
        have i1 : IntKind.i64.wrap ((m : Int) - 1) = (m : Int) - 1 := IntWalk.i64_in _ (by omega)
        obtain ⟨x, hx⟩ : ∃ x, k.toL[m]? = some x := ⟨_, List.getElem?_eq_getElem (by rw [HL.out]; omega)⟩
        obtain ⟨ad, hK, hnx, hkx⟩ := HG.out hx
        have kx := hkx wr HBW.out
        rw [hK] at c5
        have HX := Lib.hid hx
        have HNX := Lib.hid hnx
        clear hx hnx hkx hK him
        have HPU : Hid (Calls Tryd.prog 70 #[.pointer (some ⟨p, 0, none⟩), .agg #[.pointer (some (ad.add (m * 6))), .bool false, .string ⟨#[]⟩]] wr fun e w' => ∃ v', e = .returned (.tuple #[]) ∧ Pile_job w' p v' (vs1 ++ [(some (ad.add (m * 6)), false, ⟨#[]⟩)]) ∧ But (foot p v1) wr w' ∧ Grown wr v1 v') :=
          push_job wr p v1 vs1 (some (ad.add (m * 6)), false, ⟨#[]⟩) HP1.out (by omega)
        cases h6 : (x.1.kind == 6)
        · go_wp2_with fail
          refine ⟨⟨m, (m : Int) - 1, v1, vs1, by omega, by omega, by first | exact True.intro | rfl, HP1.out, ?_, HB1.out, HG1.out, by omega⟩, by simp [intOf]⟩
          rw [jobs_drop HX.out, if_neg (by unfold shown; rw [h6]; simp)]
          exact HJ1.out
        · go_wp2_with (go_at_call 70; with_reducible refine HPU.out.mono ?_; rintro e w1 ⟨v2, rfl, hp2, hb2, hg2⟩)
          refine ⟨⟨m, (m : Int) - 1, v2, _, by omega, by omega, by first | exact True.intro | rfl, hp2, ?_, HB1.out.trans hb2 (fun g hg => HG1.out.foot p hg), HG1.out.trans HB1.out.size hg2, by rw [List.length_append, List.length_singleton]; omega⟩, by simp [intOf]⟩
          rw [jobs_drop HX.out, if_pos (by unfold shown; rw [h6]; simp)]
          exact HJ1.out.push ⟨_, rfl, HNX.out⟩
end Go.Proofs.YtojpedgfllgbcaaDoor
