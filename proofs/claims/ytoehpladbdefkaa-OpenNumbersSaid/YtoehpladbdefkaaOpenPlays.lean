/- arbourlaw18.do, of any ask. -/
import Derived.Test.YtoehpladbdefkaaOpenDoA
import Derived.Test.YtoehpladbdefkaaOpenDoB
import Derived.Test.YtoehpladbdefkaaOpenDoC
import Derived.Test.YtoehpladbdefkaaOpenDoD
import Derived.Test.YtoehpladbdefkaaOpenDoE
import Derived.Test.YtoehpladbdefkaaOpenDoF
import Derived.Test.YtoehpladbdefkaaOpenDoG
import Derived.Test.YtoehpladbdefkaaOpenL
import Derived.Deep.Slices
namespace Go.Proofs.Ytoehpladbdefkaa
open Go.RowKit Go.BigFrame

theorem do_any (G : Nat → Prop) (B : Nat) (w : World) (q : Nat) (l : List It) (A : Option Addr) (n c : Nat) (x : As) (h : LG G B w q l (.slice A n c) l) (hbare : ∀ y ∈ l, bareI y) (hn : n = l.length) (hsz : n ≤ 100000) :
    Calls Try.prog 53 #[.pointer (some ⟨q, 0, none⟩), .slice A n c, .agg #[.int .i64 x.kind, .int .i64 x.h, .int .i64 x.n, .int .i64 x.m, .bool x.svg]] w (DoOut G B w q n) := by
  obtain ⟨xk, xh, xn, xm, xs⟩ := x
  by_cases h1 : xk = 1
  · exact do1 G B w q l A n c xk xh xn xm xs h hbare hn hsz h1
  by_cases h2 : xk = 2
  · exact do2 G B w q l A n c xk xh xn xm xs h hbare hn hsz h2
  by_cases h3 : xk = 3
  · exact do3 G B w q l A n c xk xh xn xm xs h hbare hn hsz h3
  by_cases h4 : xk = 4
  · exact do4 G B w q l A n c xk xh xn xm xs h hbare hn hsz h4
  by_cases h5 : xk = 5
  · exact do5 G B w q l A n c xk xh xn xm xs h hbare hn hsz h5
  by_cases h6 : xk = 6
  · exact do6 G B w q l A n c xk xh xn xm xs h hbare hn hsz h6
  by_cases h7 : xk = 7
  · exact do7 G B w q l A n c xk xh xn xm xs h hbare hn hsz h7
  by_cases h8 : xk = 8
  · exact do8 G B w q l A n c xk xh xn xm xs h hbare hn hsz h8
  by_cases h9 : xk = 9
  · exact do9 G B w q l A n c xk xh xn xm xs h hbare hn hsz h9
  by_cases h10 : xk = 10
  · exact do10 G B w q l A n c xk xh xn xm xs h hbare hn hsz h10
  exact doOther G B w q l A n c xk xh xn xm xs h hbare hn hsz (by omega)
theorem cells_asP {w : World} {ad : Addr} {l : List As} {j : Nat} {y : As} (hc : ∀ j u, (l.flatMap enc_as)[j]? = some u → w.cell? (ad.add j) = some u) (hy : l[j]? = some y) :
    w.cell? (ad.add (j * 5)) = some (.int .i64 y.kind) ∧ w.cell? { ad.add (j * 5) with off := (ad.add (j * 5)).off + 1, spot := none } = some (.int .i64 y.h) ∧ w.cell? { ad.add (j * 5) with off := (ad.add (j * 5)).off + 2, spot := none } = some (.int .i64 y.n) ∧
    w.cell? { ad.add (j * 5) with off := (ad.add (j * 5)).off + 3, spot := none } = some (.int .i64 y.m) ∧ w.cell? { ad.add (j * 5) with off := (ad.add (j * 5)).off + 4, spot := none } = some (.bool y.svg) := by
  have k0 := hc (j * 5 + 0) _ (row_at encOk_as l j 0 y _ hy rfl)
  have k1 := hc (j * 5 + 1) _ (row_at encOk_as l j 1 y _ hy rfl)
  have k2 := hc (j * 5 + 2) _ (row_at encOk_as l j 2 y _ hy rfl)
  have k3 := hc (j * 5 + 3) _ (row_at encOk_as l j 3 y _ hy rfl)
  have k4 := hc (j * 5 + 4) _ (row_at encOk_as l j 4 y _ hy rfl)
  simp only [Nat.add_zero] at k0
  rw [← Go.Deep.add_add] at k1 k2 k3 k4
  exact ⟨k0, (Addr.add_succ' (ad.add (j * 5)) 0) ▸ k1, (Addr.add_succ' (ad.add (j * 5)) 1) ▸ k2, (Addr.add_succ' (ad.add (j * 5)) 2) ▸ k3, (Addr.add_succ' (ad.add (j * 5)) 3) ▸ k4⟩

set_option maxHeartbeats 4000000 in
set_option maxRecDepth 100000 in
theorem walk_OpenPlays (A : Option Addr) (c : Nat) (l : List As) (w : World) (hr : Rd w A l.length 5 (l.flatMap enc_as)) (_hlc : l.length ≤ c) (hcm : c ≤ maxLen) :
    Calls Try.prog 11 #[.slice A l.length c] w fun e w' => e = .returned (.bool true) ∧ Below w.heap.size w w' := by
  have HR := Lib.hid hr
  have hll : l.length ≤ 9223372036854775807 := by unfold maxLen at hcm; omega
  clear hr hcm
  go_enter Try.func11, Try.ntmps11
  go_wp2_with fail
  refine (newL_item w.heap.size w (Nat.le_refl _)).mono ?_
  rintro e w1 ⟨q, rfl, h1, b1⟩
  have HM0 := Lib.hid (LG.ofLM (LM.new h1))
  have HB0 := Lib.hid b1
  clear h1 b1
  go_wp2_with fail
  go_loopw [6, 4, 5] (fun iv mv okv wr => ∃ (i : Nat) (lr : List It) (A' : Option Addr) (n' c' : Nat), i ≤ l.length ∧ i ≤ 60 ∧ iv = .int .i64 i ∧ mv = .slice A' n' c' ∧ okv = .bool true ∧ LG (fun _ => False) w.heap.size wr q lr (.slice A' n' c') lr ∧ (∀ y ∈ lr, bareI y) ∧ n' = lr.length ∧ n' ≤ i ∧ Below w.heap.size w wr) (fun iv _ _ _ => l.length - (intOf iv).toNat)
  case atStart => exact ⟨0, [], none, 0, 0, Nat.zero_le _, by omega, rfl, rfl, rfl, HM0.out, by simp, rfl, Nat.le_refl _, HB0.out⟩
  case round =>
    obtain ⟨i, lr, A', n', c', hi, hi60, rfl, rfl, rfl, hlm, hbare, hn, hni, hbr⟩ := hrel
    have HLM := Lib.hid hlm
    have HB := Lib.hid hbr
    have HBA := Lib.hid hbare
    have HN := Lib.hid hn
    clear hlm hbr hbare hn
    by_cases hlt : i < l.length ∧ i < 60
    · obtain ⟨hlt, h60⟩ := hlt
      have d0 : decide ((i : Int) < (l.length : Int)) = true := decide_eq_true (by omega)
      have d1 : decide ((i : Int) < 60) = true := decide_eq_true (by omega)
      obtain ⟨y, hy⟩ : ∃ y, l[i]? = some y := ⟨_, List.getElem?_eq_getElem hlt⟩
      obtain ⟨a1, rfl, hc1⟩ := (HR.out.keep HB.out).2.2 (by omega)
      obtain ⟨k0, k1, k2, k3, k4⟩ := cells_asP hc1 hy
      have s1 : IntKind.i64.wrap ((i : Int) + 1) = (i : Int) + 1 := IntWalk.i64_in _ (by omega)
      have HDO := Lib.hid (do_any _ w.heap.size wr q lr A' n' c' y HLM.out HBA.out HN.out (by omega))
      clear hc1 hy
      go_wp2_with fail
      refine HDO.out.mono ?_
      rintro e w3 ⟨A3, n3, c3, l3, rfl, g1, g2, g3, g4, g5, -⟩
      have HLM3 := Lib.hid g1
      have HBA3 := Lib.hid g2
      have HN3 := Lib.hid g3
      have HB3 := Lib.hid (HB.out.trans g5)
      clear g1 g2 g3 g5 k0 k1 k2 k3 k4
      go_wp2_with fail
      exact ⟨⟨i + 1, l3, A3, n3, c3, by omega, by omega, by go_num, rfl, rfl, HLM3.out, HBA3.out, HN3.out, by omega, HB3.out⟩, by simp [intOf]; omega⟩
    · have hcase : (decide ((i : Int) < (l.length : Int)) = false ∧ ¬ i < l.length) ∨ (decide ((i : Int) < (l.length : Int)) = true ∧ decide ((i : Int) < 60) = false ∧ i < l.length ∧ ¬ i < 60) := by
        by_cases h1 : i < l.length
        · exact .inr ⟨decide_eq_true (by omega), decide_eq_false (by omega), h1, by omega⟩
        · exact .inl ⟨decide_eq_false (by omega), h1⟩
      clear hlt
      rcases hcase with ⟨d0, m0⟩ | ⟨d0, d1, m0, m1⟩
      all_goals
        go_wp2_with fail
        refine (knownOpen_any _).mono ?_
        rintro e w3 ⟨rfl, b1⟩
        have HB5 := Lib.hid (below_then HB.out HB.out.size b1)
        clear b1
        go_wp2_with fail
        go_ret
        exact ⟨rfl, HB5.out⟩
end Go.Proofs.Ytoehpladbdefkaa
