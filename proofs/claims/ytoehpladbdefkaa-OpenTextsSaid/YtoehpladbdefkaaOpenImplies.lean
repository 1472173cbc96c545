/- OpenImplies, walked. -/
import Derived.Test.YtoehpladbdefkaaOpenBoth
import Derived.Test.YtoehpladbdefkaaOpenL
import Derived.Deep.Slices
import Derived.Deep.CutBlock
namespace Go.Proofs.Ytoehpladbdefkaa
open Go.RowKit

theorem trim_pre (p : It → Bool) (l : List It) : trim p l <+: l := by
  unfold trim
  have h := List.dropWhile_suffix (l := l.reverse) p
  rw [← List.reverse_prefix, List.reverse_reverse] at h
  exact h
theorem trim_last {p : It → Bool} {l : List It} {x : It} (h : (trim p l).getLast? = some x) : p x = false := by
  unfold trim at h
  rw [List.getLast?_reverse] at h
  cases hd : l.reverse.dropWhile p with
  | nil => rw [hd] at h; cases h
  | cons a r =>
    rw [hd] at h
    cases h
    have := List.head_dropWhile_not p (l := l.reverse) (by rw [hd]; simp)
    simpa [hd] using this
theorem dw_nil {α : Type} {p : α → Bool} : ∀ {l : List α}, l.dropWhile p = [] → ∀ x ∈ l, p x = true
  | [], _, x, hx => by cases hx
  | a :: l, h, x, hx => by
    rw [List.dropWhile_cons] at h
    split at h
    · rename_i ha
      rcases List.mem_cons.1 hx with rfl | hx
      · exact ha
      · exact dw_nil h x hx
    · cases h
theorem trim_gone {p : It → Bool} {l : List It} {x : It} (h : trim p l = []) (hx : x ∈ l) : p x = true := by
  unfold trim at h
  rw [List.reverse_eq_nil_iff] at h
  exact dw_nil h x (List.mem_reverse.2 hx)
theorem cells_as {w : World} {ad : Addr} {l : List As} {j : Nat} {y : As} (hc : ∀ j u, (l.flatMap enc_as)[j]? = some u → w.cell? (ad.add j) = some u) (hy : l[j]? = some y) :
    w.cell? (ad.add (j * 5)) = some (.int .i64 y.kind) ∧ w.cell? { ad.add (j * 5) with off := (ad.add (j * 5)).off + 1, spot := none } = some (.int .i64 y.h) ∧ w.cell? { ad.add (j * 5) with off := (ad.add (j * 5)).off + 2, spot := none } = some (.int .i64 y.n) ∧
    w.cell? { ad.add (j * 5) with off := (ad.add (j * 5)).off + 3, spot := none } = some (.int .i64 y.m) ∧ w.cell? { ad.add (j * 5) with off := (ad.add (j * 5)).off + 4, spot := none } = some (.bool y.svg) := by
  have k0 := hc (j * 5 + 0) _ (row_at encOk_as l j 0 y _ hy rfl)
  have k1 := hc (j * 5 + 1) _ (row_at encOk_as l j 1 y _ hy rfl)
  have k2 := hc (j * 5 + 2) _ (row_at encOk_as l j 2 y _ hy rfl)
  have k3 := hc (j * 5 + 3) _ (row_at encOk_as l j 3 y _ hy rfl)
  have k4 := hc (j * 5 + 4) _ (row_at encOk_as l j 4 y _ hy rfl)
  simp only [Nat.add_zero] at k0
  rw [← Go.Deep.add_add] at k1 k2 k3 k4
  exact ⟨k0, (Addr.add_succ' (ad.add (j * 5)) 0) ▸ k1, (Addr.add_succ' (ad.add (j * 5)) 1) ▸ k2, (Addr.add_succ' (ad.add (j * 5)) 2) ▸ k3, (Addr.add_succ' (ad.add (j * 5)) 3) ▸ k4⟩

def howP (k : Int) (x : ByteArray) : It → Bool := if k = 0 then implyP x else if k = 1 then thoroughP else clearP [x]

set_option maxHeartbeats 4000000 in
set_option maxRecDepth 100000 in
theorem walk_OpenImplies (A : Option Addr) (c : Nat) (l : List As) (n how : Int) (w : World) (hr : Rd w A l.length 5 (l.flatMap enc_as)) (_hlc : l.length ≤ c) (_hcm : c ≤ maxLen) :
    Calls Try.prog 7 #[.slice A l.length c, .int .i64 n, .int .i64 how] w fun e w' => e = .returned (.bool true) ∧ Below w.heap.size w w' := by
  obtain ⟨i0, hi0, hz0, hz1, hz2⟩ := info_parts info_item
  have HR := Lib.hid hr
  clear hr
  go_enter Try.func7, Try.ntmps7
  go_wp2_with fail
  refine (newL_item w.heap.size w (Nat.le_refl _)).mono ?_
  rintro e w1 ⟨q, rfl, h1, b1⟩
  have HM0 := Lib.hid (LM.new h1)
  have HB0 := Lib.hid b1
  clear h1 b1
  go_upto_block 0 with (fail)
  go_cut [8] (fun s8 wx => ∃ lr, LM w.heap.size wx q lr s8 lr ∧ lr.length ≤ 30 ∧ (∀ x ∈ lr, bareI x) ∧ Below w.heap.size w wx)
  case first =>
    go_wp2_with fail
    go_loopw [9, 8] (fun i mv wr => ∃ (j : Nat) (lr : List It), j ≤ l.length ∧ j ≤ 30 ∧ lr.length = j ∧ i = .int .i64 j ∧ LM w.heap.size wr q lr mv lr ∧ (∀ x ∈ lr, bareI x) ∧ Below w.heap.size w wr) (fun i _ _ => l.length - (intOf i).toNat)
    case atStart => exact ⟨0, [], Nat.zero_le _, by omega, rfl, rfl, HM0.out, by simp, HB0.out⟩
    case round =>
      obtain ⟨j, lr, hj, hj30, hlr, rfl, hlm, hbare, hbr⟩ := hrel
      have HLM := Lib.hid hlm
      have HB := Lib.hid hbr
      have HBA := Lib.hid hbare
      clear hlm hbr hbare
      by_cases hlt : j < l.length ∧ j < 30
      · obtain ⟨hlt, h30⟩ := hlt
        have d0 : decide ((j : Int) < (l.length : Int)) = true := decide_eq_true (by omega)
        have d1 : decide ((j : Int) < 30) = true := decide_eq_true (by omega)
        obtain ⟨y, hy⟩ : ∃ y, l[j]? = some y := ⟨_, List.getElem?_eq_getElem hlt⟩
        obtain ⟨a1, rfl, hc1⟩ := (HR.out.keep HB.out).2.2 (by omega)
        obtain ⟨k0, k1, k2, k3, k4⟩ := cells_as hc1 hy
        have s1 : IntKind.i64.wrap ((j : Int) + 1) = (j : Int) + 1 := IntWalk.i64_in _ (by omega)
        have hlr1 : lr.length ≤ 30 := by omega
        have HLR := Lib.hid hlr
        clear hc1 hy hlr
        go_wp2_with fail
        refine (el_keep _ y).mono ?_
        rintro e w3 ⟨rfl, b3⟩
        have hz : bareI (elI y) := ⟨rfl, rfl⟩
        generalize elI y = z at *
        have hb4 : Below wr.heap.size wr (w3.alloc (.cells (enc_item (⟨(j : Int), z.ns, z.name, z.a, z.n, z.c⟩ : It)).toArray 50)) := b3.alloc b3.size _
        have hX := Blk.new w3 50 (enc_item (⟨(j : Int), z.ns, z.name, z.a, z.n, z.c⟩ : It)).toArray (0, 0)
        have hbj : bareI (⟨(j : Int), z.ns, z.name, z.a, z.n, z.c⟩ : It) := hz
        obtain ⟨F, hF, hFb, hT⟩ := HLM.out.onList
        have HPU := Lib.hid (pushF_item F _ q lr (⟨(j : Int), z.ns, z.name, z.a, z.n, z.c⟩ : It) (hF.keep hb4) (by omega))
        have HX := Lib.hid hX
        have HT := Lib.hid hT
        have HFb := Lib.hid hFb
        have HB4 := Lib.hid hb4
        have HB3 := Lib.hid b3
        have HBJ := Lib.hid hbj
        clear k0 k1 k2 k3 k4 hX hb4 hF hT hFb b3 hbj hz
        simp only [val_item]
        go_wp2_with fail
        refine HPU.out.mono ?_
        rintro e w5 ⟨rfl, hlf5, hbt5⟩
        have hbut : But F wr w5 := below_But HB4.out hbt5
        obtain ⟨hlm5, hb5⟩ := HT.out w5 _ _ (fun k hk => by rcases hk with h | h; exact .inl h; exact .inr (by have := HB4.out.size; omega)) hlf5 hbut
        obtain ⟨hvc, _⟩ := var_item (HX.out.but hbt5 (fun hf => by have := HFb.out _ hf; have := HB3.out.size; omega))
        have c0 := hvc 0 _ rfl; have c1 := hvc 1 _ rfl; have c2 := hvc 2 _ rfl; have c3 := hvc 3 _ rfl
        have hb6 : Below w5.heap.size w5 (w5.alloc (.cells (enc_item (⟨(j : Int), z.ns, z.name, z.a, z.n, z.c⟩ : It)).toArray 50)) := (Below.refl _ _).alloc (Nat.le_refl _) _
        have HLM6 := Lib.hid (hlm5.keep hb6)
        have HB6 := Lib.hid (below_then (HB.out.trans hb5) (HB.out.trans hb5).size hb6)
        have HRD := Lib.hid (rd_one_item (Blk.new w5 50 (enc_item (⟨(j : Int), z.ns, z.name, z.a, z.n, z.c⟩ : It)).toArray (0, 0)))
        clear hbut hlm5 hb5 hvc hbt5 hlf5 hb6
        go_wp2_with (first
          | (at_builtin
             refine wpList_append_any _ rfl (.tmp 41) (.tmp 43) _ rfl w.heap.size 50 i0 _ 4 56 Try.underlying48 hi0 hz0 hz1 hz2 rfl (by omega) _ _ _ rfl HLM6.out.row (some ⟨w5.heap.size, 0, none⟩) 1 1 _ rfl HRD.out (by simp only [maxLen]; omega) (by omega) HLM6.out.le ?_
             intro v2 w6 hown2 hg2 hat2
             obtain ⟨hlm7, hb7⟩ := HLM6.out.onRow (m' := lr ++ [(⟨(j : Int), z.ns, z.name, z.a, z.n, z.c⟩ : It)]) hown2 (by simp) (by rw [List.flatMap_append]; simp) hg2 hat2
             have HLM7 := Lib.hid hlm7
             have HB7 := Lib.hid (HB6.out.trans hb7)
             clear hown2 hg2 hat2 hlm7 hb7))
        refine ⟨⟨j + 1, lr ++ [(⟨(j : Int), z.ns, z.name, z.a, z.n, z.c⟩ : It)], by omega, by omega, by simp [HLR.out], by go_num, HLM7.out, ?_, HB7.out⟩, by simp [intOf]; omega⟩
        intro x hx
        rcases List.mem_append.1 hx with h | h
        · exact HBA.out x h
        · simp at h; subst h; exact HBJ.out
      · have hd : (decide ((j : Int) < (l.length : Int)) = false) ∨ (decide ((j : Int) < (l.length : Int)) = true ∧ decide ((j : Int) < 30) = false) := by
          by_cases h1 : j < l.length
          · exact .inr ⟨decide_eq_true (by omega), decide_eq_false (by omega)⟩
          · exact .inl (decide_eq_false (by omega))
        have HJ : Hid (lr.length ≤ 30) := by show lr.length ≤ 30; omega
        clear hlt
        rcases hd with d0 | ⟨d0, d1⟩
        have d5 : ¬ (j < l.length) := by have := of_decide_eq_false d0; omega
        rotate_left
        have d2 : ¬ ((j : Int) < 30) := of_decide_eq_false d1
        have d3 : j < l.length := by have := of_decide_eq_true d0; omega
        all_goals
          go_wp2_with fail
          go_meet
          exact ⟨lr, HLM.out, HJ.out, HBA.out, HB.out⟩
  case rest =>
    obtain ⟨lr, hlm, hlr, hbare, hb⟩ := hcut
    have HLM := Lib.hid hlm
    have HBA := Lib.hid hbare
    have HB := Lib.hid hb
    clear hlm hbare hb
    go_wp2_with fail
    refine (names_keep n _).mono ?_
    rintro e w2 ⟨rfl, b2⟩
    have HLM2 := Lib.hid (HLM.out.keep b2)
    have HB2 := Lib.hid (below_then HB.out HB.out.size b2)
    generalize nameAt n = x
    clear b2
    go_wp2_with fail
    refine (within_keep how 0 2 _ (by omega) (by omega) (by omega)).mono ?_
    rintro e w3 ⟨rfl, rfl⟩
    have hk := withinI_bd how 0 2 (by omega)
    generalize withinI how 0 2 = k at *
    go_upto_block 2 with (fail)
    go_cut [13] (fun _ wx => LM w.heap.size wx q (trim (howP k x) lr) u8 lr ∧ Below w.heap.size w wx)
    case first =>
      by_cases h0 : k = 0
      · subst h0
        go_wp2_with fail
        refine (implyM _ _ q lr lr u8 x HLM2.out).mono ?_
        rintro e w4 ⟨rfl, h4, b4⟩
        go_wp2_with fail
        go_meet
        exact ⟨h4, HB2.out.trans b4⟩
      · by_cases h1 : k = 1
        · subst h1
          go_wp2_with fail
          refine (thoroughM _ _ q lr lr u8 HLM2.out).mono ?_
          rintro e w4 ⟨rfl, h4, b4⟩
          go_wp2_with fail
          go_meet
          exact ⟨h4, HB2.out.trans b4⟩
        · obtain rfl : k = 2 := by omega
          go_wp2_with fail
          refine (clearM _ _ q lr lr u8 [x] 1 rfl (by simp) HLM2.out).mono ?_
          rintro e w4 ⟨rfl, h4, b4⟩
          go_wp2_with fail
          go_meet
          exact ⟨h4, HB2.out.trans b4⟩
    case rest =>
      obtain ⟨hlm4, hb4⟩ := hcut
      have HLM4 := Lib.hid hlm4
      have HB4 := Lib.hid hb4
      obtain ⟨r, hpre⟩ := trim_pre (howP k x) lr
      have hlen : (trim (howP k x) lr).length ≤ lr.length := (trim_pre (howP k x) lr).length_le
      have HPRE := Lib.hid hpre
      have HLAST : Hid (∀ y, (trim (howP k x) lr).getLast? = some y → howP k x y = false) := fun y hy => trim_last hy
      have HGONE : Hid (trim (howP k x) lr = [] → ∀ y ∈ lr, howP k x y = true) := fun h y hy => trim_gone h hy
      generalize trim (howP k x) lr = T at *
      clear hlm4 hb4 hpre
      go_wp2_with fail
      refine (lenL_item _ _ q T HLM4.out.list).mono ?_
      rintro e w5 ⟨rfl, rfl⟩
      obtain ⟨A2, c2, hu8, hc2, hrd2, _⟩ := own_rd HLM4.out.row (row_one encOk_item lr)
      subst hu8
      have d6 : decide ((lr.length : Int) < (T.length : Int)) = false := decide_eq_false (by omega)
      have d7 : ¬ lr.length < T.length := by omega
      have hTl : T.length ≤ 30 := by omega
      have HD6 := Lib.hid d6
      go_wp2_with fail
      clear d6 d7 hrd2
      go_loopw [13] (fun i wr => ∃ j : Nat, j ≤ T.length ∧ i = .int .i64 j ∧ Below wc.heap.size wc wr) (fun i _ => T.length - (intOf i).toNat)
      case atStart => exact ⟨0, Nat.zero_le _, rfl, Below.refl _ _⟩
      case round =>
        obtain ⟨j, hj, rfl, hbr⟩ := hrel
        have HBr := Lib.hid hbr
        have HLr := Lib.hid (HLM4.out.keep hbr)
        clear hbr
        by_cases hlt : j < T.length
        · obtain ⟨y, hy⟩ : ∃ y, T[j]? = some y := ⟨_, List.getElem?_eq_getElem hlt⟩
          have hy2 : lr[j]? = some y := by rw [← HPRE.out, List.getElem?_append_left hlt]; exact hy
          have hby := HBA.out y (List.mem_of_getElem? hy2)
          have s1 : IntKind.i64.wrap ((j : Int) + 1) = (j : Int) + 1 := IntWalk.i64_in _ (by omega)
          have d0 : decide ((j : Int) < (T.length : Int)) = true := decide_eq_true (by omega)
          have hA := atL_item _ wr q T (j : Int) HLr.out.list
          rw [getL_nat, hy] at hA
          simp only [Option.elim, Option.isSome_some] at hA
          have HA := Lib.hid hA
          have HY2 := Lib.hid hy2
          have HBY := Lib.hid hby
          clear hA hy hy2 hby
          go_wp2_with fail
          refine (lenL_item _ _ q T HLr.out.list).mono ?_
          rintro e w5 ⟨rfl, rfl⟩
          go_wp2_with fail
          refine HA.out.mono ?_
          rintro e w6 ⟨rfl, b6⟩
          have hb7 : Below wr.heap.size wr (w6.alloc (.cells (enc_item y).toArray 50)) := b6.alloc b6.size _
          obtain ⟨hvc, _⟩ := var_item (x := y) (Blk.new w6 50 (enc_item y).toArray (0, 0))
          obtain ⟨g, c3, hmv, hmc⟩ := (HLr.out.keep hb7).at HY2.out
          cases hmv
          have c0 := hvc 0 _ rfl; have c1 := hvc 1 _ rfl; have c2 := hvc 2 _ rfl; have c3 := hvc 3 _ rfl
          have m0 := hmc 0 _ rfl; have m1 := hmc 1 _ rfl; have m2 := hmc 2 _ rfl; have m3 := hmc 3 _ rfl
          simp only [Nat.add_zero] at m0
          have HB7 := Lib.hid hb7
          have hl7 : (j : Int) < (lr.length : Int) := by omega
          have hl8 : (0 : Int) ≤ (j : Int) := by omega
          clear hvc hmc hb7 b6
          obtain ⟨w7, hw7⟩ : ∃ w7, w7 = w6.alloc (.cells (enc_item y).toArray 50) := ⟨_, rfl⟩
          rw [← hw7] at HB7 c0 c1 c2 c3 m0 m1 m2 m3
          simp only [val_item]
          go_upto_region 26 with (fail)
          rw [show w6.alloc (.cells #[.int .i64 y.h, .int .i64 y.ns, .string y.name, .slice y.a y.n y.c] 50) = w7 from hw7.symm]
          clear hw7
          have hB0 := made_drew w7
          have keepS : ∀ W, Below w7.heap.size w7 W → ((W.cell? ⟨w6.heap.size, 0, none⟩ = some (.int .i64 y.h) ∧ W.cell? ⟨w6.heap.size, 1, none⟩ = some (.int .i64 y.ns) ∧ W.cell? ⟨w6.heap.size, 2, none⟩ = some (.string y.name) ∧ W.cell? ⟨w6.heap.size, 3, none⟩ = some (.slice y.a y.n y.c)) ∧
            (W.cell? ⟨g, j * 4, none⟩ = some (.int .i64 y.h) ∧ W.cell? ⟨g, j * 4 + 1, none⟩ = some (.int .i64 y.ns) ∧ W.cell? ⟨g, j * 4 + 2, none⟩ = some (.string y.name) ∧ W.cell? ⟨g, j * 4 + 3, none⟩ = some (.slice y.a y.n y.c)) ∧ Below w7.heap.size w7 W) := fun W hW =>
            ⟨⟨cell_keep hW c0, cell_keep hW c1, cell_keep hW c2, cell_keep hW c3⟩, ⟨cell_keep hW m0, cell_keep hW m1, cell_keep hW m2, cell_keep hW m3⟩, hW⟩
          have KS := Lib.hid keepS
          clear keepS
          go_region_held3 (fun W => (W.cell? ⟨w6.heap.size, 0, none⟩ = some (.int .i64 y.h) ∧ W.cell? ⟨w6.heap.size, 1, none⟩ = some (.int .i64 y.ns) ∧ W.cell? ⟨w6.heap.size, 2, none⟩ = some (.string y.name) ∧ W.cell? ⟨w6.heap.size, 3, none⟩ = some (.slice y.a y.n y.c)) ∧
            (W.cell? ⟨g, j * 4, none⟩ = some (.int .i64 y.h) ∧ W.cell? ⟨g, j * 4 + 1, none⟩ = some (.int .i64 y.ns) ∧ W.cell? ⟨g, j * 4 + 2, none⟩ = some (.string y.name) ∧ W.cell? ⟨g, j * 4 + 3, none⟩ = some (.slice y.a y.n y.c)) ∧ Below w7.heap.size w7 W)
            (first | exact KS.out _ hB0 | exact KS.out _ hB8)
            ((go_at_call 47
              refine (same_item _ y HBY.out).mono ?_
              rintro e w8 ⟨rfl, b8⟩
              have hB8 : Below w7.heap.size w7 w8 := below_then hB0 hB0.size b8))
          go_wp2_with fail
          exact ⟨⟨j + 1, by omega, by go_num, below_then HBr.out HBr.out.size (below_then HB7.out HB7.out.size hB8)⟩, by simp [intOf]; omega⟩
        · have d0 : decide ((j : Int) < (T.length : Int)) = false := decide_eq_false (by omega)
          go_wp2_with fail
          refine (lenL_item _ _ q T HLr.out.list).mono ?_
          rintro e w5 ⟨rfl, rfl⟩
          have HBw := Lib.hid (below_then HB4.out HB4.out.size HBr.out)
          have htop := topL_item _ wr q T HLr.out.list
          go_wp2_with fail
          clear d0 hlt hj
          refine htop.mono ?_
          rintro e w6 ⟨rfl, b6⟩
          have HB6 := Lib.hid (below_then HBw.out HBw.out.size b6)
          have HL6 := Lib.hid (HLr.out.keep b6)
          rcases List.eq_nil_or_concat T with hT | ⟨T0, y, hT⟩
          · subst hT
            simp only [List.getLast?_nil, Option.elim, Option.isSome_none]
            have hb7 : Below w6.heap.size w6 (w6.alloc (.cells (enc_item zero_of_item).toArray 50)) := (Below.refl _ _).alloc (Nat.le_refl _) _
            have HL7 := Lib.hid (HL6.out.keep hb7)
            have HB7 := Lib.hid (below_then HB6.out HB6.out.size hb7)
            have HZ := Lib.hid (show ((([] : List It).length : Int) == 0) = true by rfl)
            clear hb7 b6
            go_wp2_with fail
            refine (lenL_item _ _ q [] HL7.out.list).mono ?_
            rintro e w7 ⟨rfl, rfl⟩
            by_cases h2 : k = 2
            · subst h2
              go_wp2_with fail
              refine (knownOpen_any _).mono ?_
              rintro e w8 ⟨rfl, b8⟩
              have HB8 := Lib.hid (below_then HB7.out HB7.out.size b8)
              clear b8
              go_wp2_with fail
              go_ret
              exact ⟨rfl, HB8.out⟩
            · have e2 : (k == 2) = false := by rw [beq_eq_false_iff_ne]; exact h2
              cases lr with
              | nil =>
                go_wp2_with fail
                refine (knownOpen_any _).mono ?_
                rintro e w8 ⟨rfl, b8⟩
                have HB8 := Lib.hid (below_then HB7.out HB7.out.size b8)
                clear b8
                go_wp2_with fail
                go_ret
                exact ⟨rfl, HB8.out⟩
              | cons y0 lr0 =>
                obtain ⟨g, c3, hmv, hmc⟩ := HL7.out.at (j := 0) (y := y0) rfl
                cases hmv
                have m2 := hmc 2 _ rfl
                simp only [Nat.zero_mul, Nat.zero_add] at m2
                have hy0 := HGONE.out trivial y0 List.mem_cons_self
                have hth : (inB y0.name thoroughN || inB y0.name impliedN) = true := by
                  unfold howP at hy0
                  by_cases h0 : k = 0
                  · rw [if_pos h0] at hy0
                    unfold implyP at hy0
                    simp only [Bool.and_eq_true] at hy0
                    rw [hy0.2.1, Bool.or_true]
                  · rw [if_neg h0, if_pos (by omega)] at hy0
                    unfold thoroughP at hy0
                    rw [Bool.and_eq_true] at hy0
                    exact hy0.2
                have hrt := ref_thorough (w6.alloc (.cells (enc_item zero_of_item).toArray 50)) y0.name
                rw [hth] at hrt
                have HRT := Lib.hid hrt
                have d8 : (((y0 :: lr0).length : Int) == 0) = false := by rw [beq_eq_false_iff_ne]; have : (y0 :: lr0).length = lr0.length + 1 := rfl; omega
                have d9 : (0 : Int) < ((y0 :: lr0).length : Int) := by have : (y0 :: lr0).length = lr0.length + 1 := rfl; omega
                clear hmc hy0 hth hrt h2
                go_wp2_with fail
                refine HRT.out.mono ?_
                rintro e w8 ⟨rfl, b8⟩
                have HB8 := Lib.hid (below_then HB7.out HB7.out.size b8)
                clear b8 m2
                go_wp2_with fail
                refine (knownOpen_any _).mono ?_
                rintro e w9 ⟨rfl, b9⟩
                have HB9 := Lib.hid (below_then HB8.out HB8.out.size b9)
                clear b9
                go_wp2_with fail
                go_ret
                exact ⟨rfl, HB9.out⟩
          · rw [List.concat_eq_append] at hT
            have hlast : T.getLast? = some y := by rw [hT]; simp
            have hp := HLAST.out y hlast
            rw [hlast]
            simp only [Option.elim, Option.isSome_some]
            have hb7 : Below w6.heap.size w6 (w6.alloc (.cells (enc_item y).toArray 50)) := (Below.refl _ _).alloc (Nat.le_refl _) _
            obtain ⟨hvc, _⟩ := var_item (x := y) (Blk.new w6 50 (enc_item y).toArray (0, 0))
            have c0 := hvc 0 _ rfl; have c1 := hvc 1 _ rfl; have c2 := hvc 2 _ rfl; have c3 := hvc 3 _ rfl
            have HB7 := Lib.hid (below_then HB6.out HB6.out.size hb7)
            clear hb7 b6 hvc hlast hT
            unfold enc_item at c0 c1 c2 c3
            simp only [val_item]
            by_cases h0 : k = 0
            · subst h0
              cases hn : (y.ns == 1)
              · clear hp
                go_wp2_with fail
                refine (knownOpen_any _).mono ?_
                rintro e w9 ⟨rfl, b9⟩
                have HB9 := Lib.hid (below_then HB7.out HB7.out.size b9)
                clear b9
                go_wp2_with fail
                go_ret
                exact ⟨rfl, HB9.out⟩
              · have hri := ref_implied (w6.alloc (.cells (enc_item y).toArray 50)) y.name
                unfold howP implyP at hp
                rw [if_pos rfl, hn, Bool.true_and] at hp
                obtain ⟨bi, hbi⟩ : ∃ b, inB y.name impliedN = b := ⟨_, rfl⟩
                rw [hbi] at hri hp
                have HRI := Lib.hid hri
                have HX7 := Lib.hid (Blk.new w6 50 (enc_item y).toArray (0, 0))
                clear hri hbi
                cases bi
                · clear hp
                  go_wp2_with fail
                  refine HRI.out.mono ?_
                  rintro e w8 ⟨rfl, b8⟩
                  have HB8 := Lib.hid (below_then HB7.out HB7.out.size b8)
                  clear b8
                  go_wp2_with fail
                  refine (knownOpen_any _).mono ?_
                  rintro e w9 ⟨rfl, b9⟩
                  have HB9 := Lib.hid (below_then HB8.out HB8.out.size b9)
                  clear b9
                  go_wp2_with fail
                  go_ret
                  exact ⟨rfl, HB9.out⟩
                · have he : (y.name.toList == x.toList) = true := by simpa using hp
                  clear hp
                  go_wp2_with fail
                  refine HRI.out.mono ?_
                  rintro e w8 ⟨rfl, b8⟩
                  have HB8 := Lib.hid (below_then HB7.out HB7.out.size b8)
                  obtain ⟨hvc8, _⟩ := var_item (x := y) (HX7.out.keep b8)
                  have m2 := hvc8 2 _ rfl
                  clear b8 hvc8
                  go_wp2_with fail
                  refine (knownOpen_any _).mono ?_
                  rintro e w9 ⟨rfl, b9⟩
                  have HB9 := Lib.hid (below_then HB8.out HB8.out.size b9)
                  clear b9
                  go_wp2_with fail
                  go_ret
                  exact ⟨rfl, HB9.out⟩
            · by_cases h1 : k = 1
              · subst h1
                cases hn : (y.ns == 1)
                · clear hp
                  go_wp2_with fail
                  refine (knownOpen_any _).mono ?_
                  rintro e w9 ⟨rfl, b9⟩
                  have HB9 := Lib.hid (below_then HB7.out HB7.out.size b9)
                  clear b9
                  go_wp2_with fail
                  go_ret
                  exact ⟨rfl, HB9.out⟩
                · have hri := ref_thorough (w6.alloc (.cells (enc_item y).toArray 50)) y.name
                  unfold howP thoroughP at hp
                  rw [if_neg (by omega), if_pos rfl, hn, Bool.true_and] at hp
                  rw [hp] at hri
                  have HRI := Lib.hid hri
                  clear hri hp
                  go_wp2_with fail
                  refine HRI.out.mono ?_
                  rintro e w8 ⟨rfl, b8⟩
                  have HB8 := Lib.hid (below_then HB7.out HB7.out.size b8)
                  clear b8
                  go_wp2_with fail
                  refine (knownOpen_any _).mono ?_
                  rintro e w9 ⟨rfl, b9⟩
                  have HB9 := Lib.hid (below_then HB8.out HB8.out.size b9)
                  clear b9
                  go_wp2_with fail
                  go_ret
                  exact ⟨rfl, HB9.out⟩
              · obtain rfl : k = 2 := by omega
                have hi : isN (x :: rootsN) y = true := by
                  unfold howP at hp
                  rw [if_neg h0, if_neg h1] at hp
                  unfold clearP isN at hp
                  unfold isN inB at *
                  cases hn : (y.ns == 1)
                  · rw [hn] at hp; simp at hp
                  · rw [hn] at hp
                    simp only [Bool.true_and, List.any_cons, List.any_nil, Bool.or_false] at hp ⊢
                    cases h1 : (y.name.toList == x.toList)
                    · rw [h1] at hp; simpa using hp
                    · rfl
                have hba : Below (w6.alloc (.cells (enc_item y).toArray 50)).heap.size (w6.alloc (.cells (enc_item y).toArray 50)) ((w6.alloc (.cells (enc_item y).toArray 50)).alloc (.cells (strs (x :: rootsN)).toArray 9)) := (Below.refl _ _).alloc (Nat.le_refl _) _
                have hrl := rd_lit (w6.alloc (.cells (enc_item y).toArray 50)) 9 (x :: rootsN)
                rw [show (w6.alloc (.cells (enc_item y).toArray 50)).heap.size = w6.heap.size + 1 by simp] at hrl
                have his := is18 _ y _ 3 (x :: rootsN) hrl (by simp [rootsN])
                clear hrl
                rw [hi] at his
                have HIS := Lib.hid his
                have HBA := Lib.hid (below_then HB7.out HB7.out.size hba)
                clear his hba hi hp h0 h1
                go_wp2_with fail
                refine HIS.out.mono ?_
                rintro e w8 ⟨rfl, b8⟩
                have HB8 := Lib.hid (below_then HBA.out HBA.out.size b8)
                clear b8
                go_wp2_with fail
                refine (knownOpen_any _).mono ?_
                rintro e w9 ⟨rfl, b9⟩
                have HB9 := Lib.hid (below_then HB8.out HB8.out.size b9)
                clear b9
                go_wp2_with fail
                go_ret
                exact ⟨rfl, HB9.out⟩
end Go.Proofs.Ytoehpladbdefkaa
