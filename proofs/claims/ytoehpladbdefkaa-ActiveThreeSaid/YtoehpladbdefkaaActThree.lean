/- ActiveThree, walked. -/
import Derived.Test.YtoehpladbdefkaaActKnown
import Derived.Test.YtoehpladbdefkaaArgAct
import Derived.Test.YtoehpladbdefkaaShort
import Derived.Test.YtoehpladbdefkaaKeep
namespace Go.Proofs.Ytoehpladbdefkaa
open Go.RowKit

def simZ (z y : Z) : Bool := simN y.2.name y.2.attrs z
theorem simZ_refl (z : Z) : simZ z z = true := by unfold simZ simN; rw [alike_refl]; simp
theorem simZ_symm (a b : Z) (h : simZ a b = true) : simZ b a = true := by
  unfold simZ simN at *
  rw [Bool.and_eq_true] at *
  exact ⟨by rw [BEq.comm]; exact h.1, alike_symm h.2⟩
theorem simZ_trans (a b c : Z) (h : simZ a b = true) (h2 : simZ b c = true) : simZ a c = true := by
  unfold simZ simN at *
  rw [Bool.and_eq_true] at *
  exact ⟨by rw [beq_iff_eq] at *; rw [h.1, h2.1], alike_trans h.2 h2.2⟩
/-- How many of the first ones are alike to the last of all, up to a marker. -/
def cntZ (l : List Z) (i : Nat) : Nat := match l.getLast? with
  | none => 0
  | some y => (tailR mkZ (l.take i).reverse).countP (fun x => simZ x y)
theorem cntZ_zero (l : List Z) : cntZ l 0 = 0 := by unfold cntZ; cases l.getLast? <;> simp [tailR]
theorem cntZ_three {l : List Z} (h : ThreeR mkZ simZ l.reverse) : cntZ l l.length ≤ 3 := by
  unfold cntZ
  cases hl : l.getLast? with
  | none => simp
  | some y =>
    simp only
    rw [List.take_length]
    have hr : ∃ t, l.reverse = y :: t := by
      rw [List.getLast?_eq_head?_reverse] at hl
      cases hr : l.reverse with
      | nil => rw [hr] at hl; cases hl
      | cons a t => rw [hr] at hl; cases hl; exact ⟨t, rfl⟩
    obtain ⟨t, hr⟩ := hr
    rw [hr] at h ⊢
    cases hm : mkZ y with
    | true => rw [tailR_mark hm]; simp
    | false => exact h [] y t rfl hm
theorem cntZ_mark {l : List Z} {i : Nat} {z : Z} (hz : l[i]? = some z) (hm : mkZ z = true) : cntZ l (i + 1) = 0 := by
  unfold cntZ
  rw [take_rev hz, tailR_mark hm]
  cases l.getLast? <;> simp
theorem cntZ_on {l : List Z} {i : Nat} {z y : Z} (hy : l.getLast? = some y) (hz : l[i]? = some z) (hm : mkZ z = false) : cntZ l (i + 1) = cntZ l i + (if simZ z y = true then 1 else 0) := by
  unfold cntZ
  rw [take_rev hz, tailR_cons hm, hy]
  simp only [List.countP_cons]

set_option maxHeartbeats 4000000 in
set_option maxRecDepth 100000 in
theorem walk_ActiveThree (A : Option Addr) (c : Nat) (l : List Aq) (w : World) (hr : Rd w A l.length 5 (l.flatMap enc_aq)) (hok : ∀ x ∈ l, x.ok w) (_hlc : l.length ≤ c) (_hcm : c ≤ maxLen) :
    Calls Try.prog 3 #[.slice A l.length c] w fun e w' => e = .returned (.bool true) ∧ Below w.heap.size w w' := by
  have HR := Lib.hid hr
  have HOK := Lib.hid hok
  clear hr hok
  go_enter Try.func3, Try.ntmps3
  go_wp2_with fail
  refine (newA w.heap.size w (Nat.le_refl _)).mono ?_
  rintro e w1 ⟨q, rfl, h1, b1⟩
  have HN := Lib.hid h1
  have HB1 := Lib.hid b1
  clear h1 b1
  go_upto_block 0 with (fail)
  go_cut [4] (fun _ wx => Below w.heap.size w wx)
  case first =>
    go_wp2_with fail
    go_loopw [4] (fun i wr => ∃ (j : Nat) (lr : List Z), j ≤ l.length ∧ j ≤ 60 ∧ i = .int .i64 j ∧ LA w.heap.size wr q lr ∧ lr.length ≤ j ∧ ThreeR mkZ simZ lr.reverse ∧ Below w.heap.size w wr) (fun i _ => l.length - (intOf i).toNat)
    case atStart => exact ⟨0, [], Nat.zero_le _, by omega, rfl, HN.out, Nat.le_refl _, ThreeR.nil, HB1.out⟩
    case round =>
      obtain ⟨j, lr, hj, hj60, rfl, hla, hlr, h3, hbr⟩ := hrel
      have HL := Lib.hid hla
      have HB := Lib.hid hbr
      have H3 := Lib.hid h3
      clear hla hbr h3
      by_cases hlt : j < l.length ∧ j < 60
      · obtain ⟨hlt, h60⟩ := hlt
        have d0 : decide ((j : Int) < (l.length : Int)) = true := decide_eq_true (by omega)
        have d1 : decide ((j : Int) < 60) = true := decide_eq_true (by omega)
        obtain ⟨y, hy⟩ : ∃ y, l[j]? = some y := ⟨_, List.getElem?_eq_getElem hlt⟩
        obtain ⟨a1, rfl, hc1⟩ := (HR.out.keep HB.out).2.2 (by omega)
        obtain ⟨k0, k1, k2, k3, k4⟩ := cells_aq hc1 hy
        have s1 : IntKind.i64.wrap ((j : Int) + 1) = (j : Int) + 1 := IntWalk.i64_in _ (by omega)
        have HY := Lib.hid hy
        clear hc1 hy k1 k3
        obtain ⟨r, hr⟩ : ∃ r, y.kind.tmod 4 = r := ⟨_, rfl⟩
        go_upto_block 2 with (fail)
        go_cut [5] (fun _ wx => ∃ l', LA w.heap.size wx q l' ∧ l'.length ≤ j + 1 ∧ ThreeR mkZ simZ l'.reverse ∧ Below w.heap.size w wx)
        case first =>
          clear hr
          by_cases h0 : r = 0
          · subst h0
            go_wp2_with fail
            refine (markA _ _ q lr HL.out (by omega)).mono ?_
            rintro e w3 ⟨rfl, hla3, b3⟩
            have HL3 := Lib.hid hla3
            have HB3 := Lib.hid (HB.out.trans b3)
            clear hla3 b3
            go_wp2_with fail
            go_meet
            refine ⟨_, HL3.out, by simp; omega, ?_, HB3.out⟩
            rw [List.reverse_append, List.reverse_singleton, List.singleton_append]
            exact ThreeR.mark rfl H3.out
          · by_cases h1 : r = 1
            · subst h1
              go_wp2_with fail
              refine (clearA _ _ q lr HL.out).mono ?_
              rintro e w3 ⟨rfl, hla3, b3⟩
              have HL3 := Lib.hid hla3
              have HB3 := Lib.hid (HB.out.trans b3)
              clear hla3 b3
              go_wp2_with fail
              go_meet
              refine ⟨_, HL3.out, ?_, ?_, HB3.out⟩
              · have : ∀ r : List Z, (clearR mkZ r).length ≤ r.length := fun r => by
                  induction r with
                  | nil => exact Nat.le_refl _
                  | cons x r ih => unfold clearR; split <;> simp; omega
                have := this lr.reverse
                unfold clearG
                rw [List.length_reverse] at this ⊢
                omega
              · unfold clearG; rw [List.reverse_reverse]; exact H3.out.clear
            · have e0 : (r == 0) = false := by rw [beq_eq_false_iff_ne]; exact h0
              have e1 : (r == 1) = false := by rw [beq_eq_false_iff_ne]; exact h1
              obtain ⟨at0, hat, hat1, hat2⟩ := HOK.out y (List.mem_of_getElem? HY.out)
              have HAT := Lib.hid hat
              have HAT1 := Lib.hid hat1
              have keepS : ∀ W, Below w.heap.size w W → (W.cell? { a1.add (j * 5) with off := (a1.add (j * 5)).off + 2, spot := none } = some (.int .i64 y.n) ∧ W.cell? { a1.add (j * 5) with off := (a1.add (j * 5)).off + 4, spot := none } = some (.slice y.a y.an y.ac) ∧ Below w.heap.size w W) := fun W hW => by
                obtain ⟨ad, e, hcW⟩ := (HR.out.keep hW).2.2 (by omega)
                cases e
                obtain ⟨_, _, m2, _, m4⟩ := cells_aq hcW HY.out
                exact ⟨m2, m4, hW⟩
              have KS := Lib.hid keepS
              have hB0 := HB.out.drew
              have hw0 := HB.out.size
              clear h0 h1 hat hat1 keepS
              go_wp2_with fail
              go_region_held3 (fun W => W.cell? { a1.add (j * 5) with off := (a1.add (j * 5)).off + 2, spot := none } = some (.int .i64 y.n) ∧ W.cell? { a1.add (j * 5) with off := (a1.add (j * 5)).off + 4, spot := none } = some (.slice y.a y.an y.ac) ∧ Below w.heap.size w W)
                (first | exact KS.out _ hB0 | exact KS.out _ hB3 | exact KS.out _ hB4 | exact KS.out _ hB5)
                (first
                  | (go_at_call 16
                     refine (names_keep _ _).mono ?_
                     rintro e w3 ⟨rfl, b3⟩
                     have hb03 : Below wr.heap.size wr w3 := below_then (made_drew wr) (made_drew wr).size b3
                     have HB03 := Lib.hid hb03
                     have hB3 : Below w.heap.size w w3 := below_then HB.out HB.out.size hb03
                     clear b3 hb03)
                  | (go_at_call 17
                     refine (short_keep w3 y.a y.an y.ac at0 (HAT.out.keep hB3) HAT1.out hat2).mono ?_
                     rintro e w4 ⟨v4, rfl, hrow4, b4⟩
                     obtain ⟨A4, c4, hv4, hr4⟩ := hrow4.read
                     subst hv4
                     have hb04 : Below wr.heap.size wr w4 := below_then HB03.out HB03.out.size b4
                     have HB04 := Lib.hid hb04
                     have HROW4 := Lib.hid hrow4
                     have HR4 := Lib.hid hr4
                     have hB4 : Below w.heap.size w w4 := below_then HB.out HB.out.size hb04
                     clear b4 hb04 hrow4 hr4)
                  | (go_at_call 15
                     refine (pushA _ wr w4 q lr (j : Int) _ A4 _ c4 (shortA at0) HL.out HB04.out HR4.out (rowA_parts HROW4.out).1 (fun ad e => Nat.le_trans HB03.out.size ((rowA_parts HROW4.out).2 ad e).1) (by have := shortA_len at0; omega) (by omega)).mono ?_
                     rintro e w5 ⟨rfl, hla5, b5⟩
                     have HLA5 := Lib.hid hla5
                     have hB5 : Below w.heap.size w w5 := hB4.trans b5
                     clear hla5 b5))
              go_wp2_with fail
              go_meet
              obtain ⟨x, hx⟩ := HLA5.out
              refine ⟨_, hx, Nat.le_trans (pushG_len _ _ _ _) (by omega), ?_, hB5⟩
              exact ThreeR.push (x := (x, ⟨false, (j : Int), nameAt (y.n.tmod 4), shortA at0⟩)) simZ_refl simZ_symm simZ_trans rfl H3.out
        case rest =>
          obtain ⟨l', hla, hl', h3, hb⟩ := hcut
          have HL2 := Lib.hid hla
          have HB2 := Lib.hid hb
          have HC3 := Lib.hid (cntZ_three h3)
          have HT3 := Lib.hid h3
          have HLL := Lib.hid hl'
          have hl61 : l'.length ≤ 61 := by omega
          have s2 : IntKind.i64.wrap ((l'.length : Int) - 1) = (l'.length : Int) - 1 := IntWalk.i64_in _ (by omega)
          clear hla hb h3 k0 k2 k4 hr hl'
          go_wp2_with fail
          refine (lenA _ _ q l' HL2.out).mono ?_
          rintro e w2 ⟨rfl, rfl⟩
          go_upto_block 3 with (fail)
          go_cut [5] (fun s5 wx => ∃ m : Nat, m ≤ 3 ∧ s5 = .int .i64 m ∧ Below wc.heap.size wc wx)
          case first =>
            go_wp2_with fail
            go_loopw [6, 5] (fun k s5 wr => ∃ (i m : Nat), i ≤ l'.length ∧ k = .int .i64 ((i : Int) - 1) ∧ s5 = .int .i64 m ∧ cntZ l' l'.length = m + cntZ l' i ∧ Below wc.heap.size wc wr) (fun k _ _ => (intOf k + 1).toNat)
            case atStart => exact ⟨l'.length, 0, Nat.le_refl _, rfl, rfl, by omega, Below.refl _ _⟩
            case round =>
              obtain ⟨i, m, hi, rfl, rfl, hcnt, hbr⟩ := hrel
              have HBr := Lib.hid hbr
              have hm3 : m ≤ 3 := by have := HC3.out; omega
              have HCNT := Lib.hid hcnt
              have HLr := Lib.hid (HL2.out.keep hbr)
              clear hbr hcnt
              cases i with
              | zero =>
                go_wp2_with fail
                go_meet
                exact ⟨m, hm3, rfl, HBr.out⟩
              | succ i =>
                have e1 : (((i + 1 : Nat) : Int) - 1) = (i : Int) := by omega
                rw [e1]
                obtain ⟨z, hz⟩ : ∃ z, l'[i]? = some z := ⟨_, List.getElem?_eq_getElem (by omega)⟩
                obtain ⟨n', hn'⟩ : ∃ n', l'.length = n' + 1 := ⟨l'.length - 1, by omega⟩
                obtain ⟨y', hy'⟩ : ∃ y', l'[n']? = some y' := ⟨_, List.getElem?_eq_getElem (by omega)⟩
                have hlast : l'.getLast? = some y' := by rw [List.getLast?_eq_getElem?, hn']; exact hy'
                have s3 : IntKind.i64.wrap ((l'.length : Int) - 1) = (n' : Int) := by
                  rw [show (l'.length : Int) - 1 = (n' : Int) by omega]; exact IntWalk.i64_in _ (by omega)
                have s4 : IntKind.i64.wrap ((i : Int) - 1) = (i : Int) - 1 := IntWalk.i64_in _ (by omega)
                have s5 : IntKind.i64.wrap ((m : Int) + 1) = (m : Int) + 1 := IntWalk.i64_in _ (by omega)
                have HAt := Lib.hid (atA _ _ q l' i z HLr.out hz)
                have HZM := Lib.hid (List.mem_of_getElem? hz)
                have HYM := Lib.hid (List.mem_of_getElem? hy')
                have HZ := Lib.hid hz
                have HY' := Lib.hid hy'
                have HLAST := Lib.hid hlast
                clear hz hy' hlast hn' s2
                go_wp2_with fail
                refine HAt.out.mono ?_
                rintro e w3 ⟨rfl, b3⟩
                have hb3 : Below wr.heap.size wr (w3.alloc (.cells (enc_entry z.1).toArray 33)) := b3.alloc b3.size _
                obtain ⟨hvc, _⟩ := var_entry (x := z.1) (Blk.new w3 33 (enc_entry z.1).toArray (0, 0))
                have HVC := Lib.hid hvc
                have c0 := hvc 0 _ rfl; have c1 := hvc 1 _ rfl; have c2 := hvc 2 _ rfl; have c3 := hvc 3 _ rfl
                obtain ⟨bm, hbm⟩ : ∃ b, z.2.marker = b := ⟨_, rfl⟩
                obtain ⟨F, hrep⟩ := HLr.out.rep HZM.out
                have hmk : z.1.marker = bm := by rw [hrep.marker, hbm]
                have HMK := Lib.hid (show mkZ z = bm from hbm)
                have HL4 := Lib.hid (HLr.out.keep hb3)
                have HB4 := Lib.hid (below_then HBr.out HBr.out.size hb3)
                unfold enc_entry at c0 c1 c2 c3 HVC HL4 HB4
                rw [hmk] at c0 c1 c2 c3 HVC HL4 HB4
                clear hvc b3 hb3 hrep hbm
                simp only [val_entry]
                rw [hmk]
                clear hmk
                cases bm
                · go_wp2_with fail
                  refine (lenA _ _ q l' HL4.out).mono ?_
                  rintro e w4 ⟨rfl, rfl⟩
                  go_wp2_with fail
                  refine (atA _ _ q l' n' y' HL4.out HY'.out).mono ?_
                  rintro e w5 ⟨rfl, b5⟩
                  have hb6 := b5.alloc b5.size (.cells (enc_entry y'.1).toArray 33)
                  obtain ⟨hvy, _⟩ := var_entry (x := y'.1) (Blk.new w5 33 (enc_entry y'.1).toArray (0, 0))
                  have m2 := hvy 2 _ rfl; have m3 := hvy 3 _ rfl
                  have z2 := cell_keep hb6 (HVC.out 2 _ rfl); have z3 := cell_keep hb6 (HVC.out 3 _ rfl)
                  have HL6 := Lib.hid (HL4.out.keep hb6)
                  have HB6 := Lib.hid (below_then HB4.out HB4.out.size hb6)
                  obtain ⟨F1, hrz⟩ := HL6.out.rep HZM.out
                  obtain ⟨F2, hry⟩ := HL6.out.rep HYM.out
                  have hal := alike7 _ z.1.a y'.1.a z.1.n z.1.c y'.1.n y'.1.c z.2.attrs y'.2.attrs hrz.attrs hry.attrs (by have := hrz.few; omega) (by have := hry.few; omega)
                  obtain ⟨bn, hbn⟩ : ∃ b, (z.1.name.toList == y'.1.name.toList) = b := ⟨_, rfl⟩
                  obtain ⟨ba, hba⟩ : ∃ b, alikeA z.2.attrs y'.2.attrs = b := ⟨_, rfl⟩
                  have HSIM : Hid (simZ z y' = (bn && ba)) := by show simZ z y' = _; unfold simZ simN; rw [← hrz.name, ← hry.name, hbn, hba]
                  rw [hba] at hal
                  have HAL := Lib.hid hal
                  have HON := Lib.hid (cntZ_on HLAST.out HZ.out HMK.out)
                  unfold enc_entry at m2 m3 z2 z3 HL6 HB6 HAL
                  clear hvy b5 hb6 hrz hry hal hba c0 c1 c2 c3
                  simp only [val_entry]
                  cases bn
                  · go_wp2_with fail
                    refine ⟨⟨i, m, by omega, rfl, rfl, ?_, HB6.out⟩, by simp [intOf]⟩
                    have h1 := HCNT.out
                    rw [HON.out, HSIM.out] at h1
                    simpa using h1
                  · go_wp2_with fail
                    refine HAL.out.mono ?_
                    rintro e w7 ⟨rfl, b7⟩
                    have HB7 := Lib.hid (below_then HB6.out HB6.out.size b7)
                    clear b7
                    cases ba
                    · go_wp2_with fail
                      refine ⟨⟨i, m, by omega, rfl, rfl, ?_, HB7.out⟩, by simp [intOf]⟩
                      have h1 := HCNT.out
                      rw [HON.out, HSIM.out] at h1
                      simpa using h1
                    · go_wp2_with fail
                      refine ⟨⟨i, m + 1, by omega, rfl, by go_num, ?_, HB7.out⟩, by simp [intOf]⟩
                      have h1 := HCNT.out
                      rw [HON.out, HSIM.out] at h1
                      simp at h1
                      omega
                · go_wp2_with fail
                  go_meet
                  exact ⟨m, hm3, rfl, HB4.out⟩
          case rest =>
            obtain ⟨m, hm, rfl, hb⟩ := hcut
            have HB5 := Lib.hid hb
            have d7 : decide ((m : Int) > 3) = false := decide_eq_false (by omega)
            clear hb
            go_wp2_with fail
            exact ⟨⟨j + 1, l', by omega, by omega, by go_num, HL2.out.keep HB5.out, HLL.out, HT3.out, below_then HB2.out HB2.out.size HB5.out⟩, by simp [intOf]; omega⟩
      · have hd : (decide ((j : Int) < (l.length : Int)) = false) ∨ (decide ((j : Int) < (l.length : Int)) = true ∧ decide ((j : Int) < 60) = false) := by
          by_cases h1 : j < l.length
          · exact .inr ⟨decide_eq_true (by omega), decide_eq_false (by omega)⟩
          · exact .inl (decide_eq_false (by omega))
        clear hlt
        rcases hd with d0 | ⟨d0, d1⟩
        have d5 : ¬ (j < l.length) := by have := of_decide_eq_false d0; omega
        rotate_left
        have d2 : ¬ ((j : Int) < 60) := of_decide_eq_false d1
        have d3 : j < l.length := by have := of_decide_eq_true d0; omega
        all_goals
          go_wp2_with fail
          go_meet
          exact HB.out
  case rest =>
    have HB := Lib.hid hcut
    go_wp2_with fail
    refine (knownAct_any _).mono ?_
    rintro e w3 ⟨rfl, b3⟩
    have HB3 := Lib.hid (below_then HB.out HB.out.size b3)
    clear b3
    go_wp2_with fail
    go_ret
    exact ⟨rfl, HB3.out⟩
end Go.Proofs.Ytoehpladbdefkaa
