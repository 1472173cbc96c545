/- ActiveMarks, walked. -/
import Derived.Test.YtoehpladbdefkaaActMarksL
namespace Go.Proofs.Ytoehpladbdefkaa
open Go.RowKit

theorem rd_one_entry {w : World} {b : Nat} {x : En} (h : Blk w b 33 (enc_entry x).toArray (0, 0)) : Rd w (some ⟨b, 0, none⟩) 1 4 (enc_entry x) :=
  ⟨rfl, (encOk_entry x).2, fun _ => ⟨_, rfl, fun j u hu => by rw [add0, h.cell j, List.getElem?_toArray]; exact hu⟩⟩
theorem tells_1 (w : World) : Tells_m1 w (fun _ => false) := fun h W _ => by
  go_enter Try.func24, Try.ntmps24
  go_wp2_with fail
  go_ret
  exact ⟨rfl, Below.refl _ _⟩
theorem tells_2 (w : World) : Tells_m2 w (fun _ => true) := fun h W _ => by
  go_enter Try.func26, Try.ntmps26
  go_wp2_with fail
  go_ret
  exact ⟨rfl, Below.refl _ _⟩
theorem tells_3 (w : World) : Tells_m3 w (fun _ => false) := fun h W _ => by
  go_enter Try.func27, Try.ntmps27
  go_wp2_with fail
  go_ret
  exact ⟨rfl, Below.refl _ _⟩
theorem pushW (B : Nat) (w : World) (q : Nat) (l : List Z) (rv : Value) (r : List En) (h : Int) (name : ByteArray) (hl : LW B w q l rv r) (hsz : l.length ≤ 1000000) :
    Calls Try.prog 15 #[.pointer (some ⟨q, 0, none⟩), .int .i64 h, .string name, .slice none 0 0] w fun e w' => e = .returned (.tuple #[]) ∧ ∃ x : En, LW B w' q (pushG mkZ (simN name []) l (x, ⟨false, h, name, []⟩)) rv r ∧ Below B w w' := by
  obtain ⟨p, v, h1, h2, h3⟩ := hl
  refine (pushP p v B w w q l h name none 0 0 [] h1 (Below.refl _ _) (RdA.nil' _) (fun _ => rfl) (fun ad e => by cases e) (by omega) hsz).mono ?_
  rintro e w' ⟨he, x, v', g1, g2, g3⟩
  have := LW.turn h1 h2 h3 g1 g2 g3
  exact ⟨he, x, this.1, this.2⟩
theorem markW (B : Nat) (w : World) (q : Nat) (l : List Z) (rv : Value) (r : List En) (hl : LW B w q l rv r) (hsz : l.length ≤ 1000000) :
    Calls Try.prog 13 #[.pointer (some ⟨q, 0, none⟩)] w fun e w' => e = .returned (.tuple #[]) ∧ LW B w' q (l ++ [markZ]) rv r ∧ Below B w w' := by
  obtain ⟨p, v, h1, h2, h3⟩ := hl
  refine (markP p v B w q l h1 hsz).mono ?_
  rintro e w' ⟨he, v', g1, g2, g3⟩
  have := LW.turn h1 h2 h3 g1 g2 g3
  exact ⟨he, this.1, this.2⟩
theorem clearW (B : Nat) (w : World) (q : Nat) (l : List Z) (rv : Value) (r : List En) (hl : LW B w q l rv r) :
    Calls Try.prog 14 #[.pointer (some ⟨q, 0, none⟩)] w fun e w' => e = .returned (.tuple #[]) ∧ LW B w' q (clearG mkZ l) rv r ∧ Below B w w' := by
  obtain ⟨p, v, h1, h2, h3⟩ := hl
  refine (clearP p v B w q l h1).mono ?_
  rintro e w' ⟨he, v', g1, g2, g3⟩
  have := LW.turn h1 h2 h3 g1 g2 (.inl g3)
  exact ⟨he, this.1, this.2⟩

set_option maxHeartbeats 4000000 in
set_option maxRecDepth 100000 in
theorem walk_ActiveMarks (A : Option Addr) (c : Nat) (l : List Aq) (A2 : Option Addr) (c2 : Nat) (m : List Aq) (w : World) (hr : Rd w A l.length 5 (l.flatMap enc_aq)) (_hok : ∀ x ∈ l, x.ok w) (_hlc : l.length ≤ c) (_hcm : c ≤ maxLen)
    (hr2 : Rd w A2 m.length 5 (m.flatMap enc_aq)) (_hok2 : ∀ x ∈ m, x.ok w) (_hlc2 : m.length ≤ c2) (_hcm2 : c2 ≤ maxLen) :
    Calls Try.prog 4 #[.slice A l.length c, .slice A2 m.length c2] w fun e w' => e = .returned (.bool true) ∧ Below w.heap.size w w' := by
  obtain ⟨i0, hi0, hz0, hz1, hz2⟩ := info_parts info_entry
  have HR := Lib.hid hr
  have HR2 := Lib.hid hr2
  clear hr hr2 _hok _hok2
  go_enter Try.func4, Try.ntmps4
  go_wp2_with fail
  refine (newA w.heap.size w (Nat.le_refl _)).mono ?_
  rintro e w1 ⟨q, rfl, h1, b1⟩
  have HN := Lib.hid h1
  have HB1 := Lib.hid b1
  clear h1 b1
  go_upto_block 0 with (fail)
  go_cut [6] (fun _ wx => ∃ lr, LA w.heap.size wx q lr ∧ lr.length ≤ 15 ∧ (∀ z ∈ lr, mkZ z = false) ∧ Below w.heap.size w wx)
  case first =>
    go_wp2_with fail
    go_loopw [6] (fun i wr => ∃ (j : Nat) (lr : List Z), j ≤ l.length ∧ j ≤ 15 ∧ i = .int .i64 j ∧ LA w.heap.size wr q lr ∧ lr.length ≤ j ∧ (∀ z ∈ lr, mkZ z = false) ∧ Below w.heap.size w wr) (fun i _ => l.length - (intOf i).toNat)
    case atStart => exact ⟨0, [], Nat.zero_le _, by omega, rfl, HN.out, Nat.le_refl _, by simp, HB1.out⟩
    case round =>
      obtain ⟨j, lr, hj, hj60, rfl, hla, hlr, hun, hbr⟩ := hrel
      have HL := Lib.hid hla
      have HB := Lib.hid hbr
      have HU := Lib.hid hun
      clear hla hbr hun
      by_cases hlt : j < l.length ∧ j < 15
      · obtain ⟨hlt, h60⟩ := hlt
        have d0 : decide ((j : Int) < (l.length : Int)) = true := decide_eq_true (by omega)
        have d1 : decide ((j : Int) < 15) = true := decide_eq_true (by omega)
        obtain ⟨y, hy⟩ : ∃ y, l[j]? = some y := ⟨_, List.getElem?_eq_getElem hlt⟩
        obtain ⟨a1, rfl, hc1⟩ := (HR.out.keep HB.out).2.2 (by omega)
        obtain ⟨k0, k1, k2, k3, k4⟩ := cells_aq hc1 hy
        have s1 : IntKind.i64.wrap ((j : Int) + 1) = (j : Int) + 1 := IntWalk.i64_in _ (by omega)
        clear hc1 hy k0 k1 k3 k4
        go_wp2_with fail
        refine (names_keep _ _).mono ?_
        rintro e w3 ⟨rfl, b3⟩
        have HL3 := Lib.hid (HL.out.keep b3)
        have HB3 := Lib.hid (below_then HB.out HB.out.size b3)
        clear b3 k2
        generalize nameAt (y.n.tmod 4) = nm
        go_wp2_with fail
        refine (pushA _ _ _ q lr (j : Int) nm none 0 0 [] HL3.out (Below.refl _ _) (RdA.nil' _) (fun _ => rfl) (fun ad e => by cases e) (by omega) (by omega)).mono ?_
        rintro e w4 ⟨rfl, ⟨x, hla4⟩, b4⟩
        have HL4 := Lib.hid hla4
        have HB4 := Lib.hid (HB3.out.trans b4)
        clear hla4 b4
        go_wp2_with fail
        refine ⟨⟨j + 1, _, by omega, by omega, by go_num, HL4.out, Nat.le_trans (pushG_len _ _ _ _) (by omega), fun z hz => ?_, HB4.out⟩, by simp [intOf]; omega⟩
        rcases pushG_mem hz with h | h
        · exact HU.out z h
        · rw [h]; rfl
      · have hd : (decide ((j : Int) < (l.length : Int)) = false) ∨ (decide ((j : Int) < (l.length : Int)) = true ∧ decide ((j : Int) < 15) = false) := by
          by_cases h1 : j < l.length
          · exact .inr ⟨decide_eq_true (by omega), decide_eq_false (by omega)⟩
          · exact .inl (decide_eq_false (by omega))
        have HJ : Hid (lr.length ≤ 15) := by show lr.length ≤ 15; omega
        clear hlt
        rcases hd with d0 | ⟨d0, d1⟩
        have d5 : ¬ (j < l.length) := by have := of_decide_eq_false d0; omega
        rotate_left
        have d2 : ¬ ((j : Int) < 15) := of_decide_eq_false d1
        have d3 : j < l.length := by have := of_decide_eq_true d0; omega
        all_goals
          go_wp2_with fail
          go_meet
          exact ⟨lr, HL.out, HJ.out, HU.out, HB.out⟩
  case rest =>
    obtain ⟨lr, hla, hlr, hun, hb⟩ := hcut
    have HL := Lib.hid hla
    have HU := Lib.hid hun
    have HB := Lib.hid hb
    clear hla hun hb
    go_wp2_with fail
    refine (lenA _ _ q lr HL.out).mono ?_
    rintro e w2 ⟨rfl, rfl⟩
    go_upto_block 2 with (fail)
    go_cut [8] (fun s8 wx => LW w.heap.size wx q lr s8 (lr.map Prod.fst) ∧ Below w.heap.size w wx)
    case first =>
      go_wp2_with fail
      go_loopw [9, 8] (fun i s8 wr => ∃ j : Nat, j ≤ lr.length ∧ i = .int .i64 j ∧ LW w.heap.size wr q lr s8 ((lr.take j).map Prod.fst) ∧ (∀ z ∈ lr, ∀ ad, z.1.a = some ad → s8.ownBlock ≠ some ad.block) ∧ Below w.heap.size w wr) (fun i _ _ => lr.length - (intOf i).toNat)
      case atStart => exact ⟨0, Nat.zero_le _, rfl, LW.new HL.out, (fun z _ ad _ e => by cases e), HB.out⟩
      case round =>
        obtain ⟨j, hj, rfl, hlw, hap, hbr⟩ := hrel
        have HLW := Lib.hid hlw
        have HAP := Lib.hid hap
        have HBr := Lib.hid hbr
        clear hlw hap hbr
        by_cases hlt : j < lr.length
        · have d0 : decide ((j : Int) < (lr.length : Int)) = true := decide_eq_true (by omega)
          obtain ⟨z, hz⟩ : ∃ z, lr[j]? = some z := ⟨_, List.getElem?_eq_getElem hlt⟩
          have s1 : IntKind.i64.wrap ((j : Int) + 1) = (j : Int) + 1 := IntWalk.i64_in _ (by omega)
          have HAt := Lib.hid (atA _ _ q lr j z HLW.out.list hz)
          have hmt : (lr.take (j + 1)).map Prod.fst = (lr.take j).map Prod.fst ++ [z.1] := by rw [List.take_add_one, hz]; simp
          have HMT := Lib.hid hmt
          have hln : ((lr.take j).map Prod.fst).length ≤ 15 := by rw [List.length_map, List.length_take]; omega
          clear hz hmt
          go_wp2_with fail
          refine HAt.out.mono ?_
          rintro e w3 ⟨rfl, b3⟩
          have hb3 : Below wr.heap.size wr (w3.alloc (.cells (enc_entry z.1).toArray 33)) := b3.alloc b3.size _
          obtain ⟨hvc, _⟩ := var_entry (x := z.1) (Blk.new w3 33 (enc_entry z.1).toArray (0, 0))
          have c0 := hvc 0 _ rfl; have c1 := hvc 1 _ rfl; have c2 := hvc 2 _ rfl; have c3 := hvc 3 _ rfl
          have hb4 : Below wr.heap.size wr ((w3.alloc (.cells (enc_entry z.1).toArray 33)).alloc (.cells (enc_entry z.1).toArray 33)) := hb3.alloc hb3.size _
          have hrd := rd_one_entry (Blk.new (w3.alloc (.cells (enc_entry z.1).toArray 33)) 33 (enc_entry z.1).toArray (0, 0))
          rw [show (w3.alloc (.cells (enc_entry z.1).toArray 33)).heap.size = w3.heap.size + 1 by simp] at hrd
          have HRD := Lib.hid hrd
          have HLW4 := Lib.hid (HLW.out.keep hb4)
          have HB4 := Lib.hid (below_then HBr.out HBr.out.size hb4)
          clear hvc b3 hb3 hb4 hrd
          unfold enc_entry at c0 c1 c2 c3
          simp only [val_entry]
          go_wp2_with (first
            | (at_builtin
               refine wpList_append_any _ rfl (.tmp 56) (.tmp 58) _ rfl w.heap.size 33 i0 _ 4 56 Try.underlying39 hi0 hz0 hz1 hz2 rfl (by omega) _ _ _ rfl HLW4.out.row (some ⟨w3.heap.size + 1, 0, none⟩) 1 1 _ rfl HRD.out (by simp only [maxLen]; omega) (by omega) HLW4.out.le ?_
               intro v2 w6 hown2 hg2 hat2
               obtain ⟨hlw7, hb7⟩ := HLW4.out.onRow (r' := (lr.take j).map Prod.fst ++ [z.1]) hown2 (by simp) (by rw [List.flatMap_append]; simp) hg2 hat2 HAP.out
               have HLW7 := Lib.hid hlw7
               have HB7 := Lib.hid (HB4.out.trans hb7)
               have HAT2 := Lib.hid hat2
               clear hown2 hg2 hat2 hlw7 hb7))
          refine ⟨⟨j + 1, by omega, by go_num, by rw [HMT.out]; exact HLW7.out, fun z hz ad ea e => ?_, HB7.out⟩, by simp [intOf]; omega⟩
          rcases HAT2.out with h | h
          · exact HAP.out z hz ad ea (h ▸ e)
          · rw [h] at e
            obtain ⟨F, hrep⟩ := HLW4.out.list.rep hz
            have h1 := (hrep.apart ad ea).1
            have h2 := Option.some.inj e
            exact (Nat.ne_of_lt h1) h2.symm
        · have d0 : decide ((j : Int) < (lr.length : Int)) = false := decide_eq_false (by omega)
          have hlw := HLW.out
          rw [List.take_of_length_le (by omega)] at hlw
          have HLW2 := Lib.hid hlw
          clear hlw
          go_wp2_with fail
          go_meet
          exact ⟨HLW2.out, HBr.out⟩
    case rest =>
      obtain ⟨hlw, hb⟩ := hcut
      have HLW := Lib.hid hlw
      have HB2 := Lib.hid hb
      clear hlw hb
      have hlen1 : (lr ++ [markZ]).length = lr.length + 1 := by simp
      go_wp2_with fail
      refine (markW _ _ q lr _ _ HLW.out (by omega)).mono ?_
      rintro e w3 ⟨rfl, hlw3, b3⟩
      have HLW3 := Lib.hid hlw3
      have HB3 := Lib.hid (HB2.out.trans b3)
      clear hlw3 b3
      go_wp2_with fail
      refine (names_keep _ _).mono ?_
      rintro e w4 ⟨rfl, b4⟩
      have HLW4 := Lib.hid (HLW3.out.keep b4)
      have HB4 := Lib.hid (below_then HB3.out HB3.out.size b4)
      clear b4
      generalize nameAt 0 = nm
      have hfi := findF _ w4 q _ nm HLW4.out.list
      rw [find_mark] at hfi
      have HFI := Lib.hid hfi
      clear hfi
      go_wp2_with fail
      refine HFI.out.mono ?_
      rintro e w5 ⟨rfl, b5⟩
      simp only [Option.elim, Option.isSome_none, val_entry, zero_of_entry]
      have hb5 := b5.alloc b5.size (.cells (enc_entry zero_of_entry).toArray 33)
      have HLW5 := Lib.hid (HLW4.out.keep hb5)
      have HB5 := Lib.hid (below_then HB4.out HB4.out.size hb5)
      have hfr := from_m1 _ _ q _ (fun _ => false) HLW5.out.list (tells_1 _)
      rw [from_mark] at hfr
      have HFR := Lib.hid hfr
      unfold enc_entry zero_of_entry at HFR HLW5 HB5
      have s3 : IntKind.i64.wrap ((lr.length : Int) + 1) = (lr.length : Int) + 1 := IntWalk.i64_in _ (by omega)
      have s4 : ((lr.length + 1 : Nat) : Int) = (lr.length : Int) + 1 := by omega
      clear b5 hb5 hfr
      go_wp2_with fail
      rw [s4] at HFR
      refine HFR.out.mono ?_
      rintro e w6 ⟨rfl, b6⟩
      have HLW6 := Lib.hid (HLW5.out.keep b6)
      have HB6 := Lib.hid (below_then HB5.out HB5.out.size b6)
      clear b6 s4
      have d8 : (((lr.length : Int) + 1) != ((lr.length : Int) + 1)) = false := by simp
      go_upto_block 4 with (fail)
      go_cut [14] (fun _ wx => ∃ D, LW w.heap.size wx q (lr ++ markZ :: D) u8 (lr.map Prod.fst) ∧ (∀ z ∈ D, mkZ z = false) ∧ Below w.heap.size w wx)
      case first =>
        go_wp2_with fail
        go_loopw [14] (fun i wr => ∃ (j : Nat) (D : List Z), j ≤ m.length ∧ j ≤ 15 ∧ i = .int .i64 j ∧ LW w.heap.size wr q (lr ++ markZ :: D) u8 (lr.map Prod.fst) ∧ D.length ≤ j ∧ (∀ z ∈ D, mkZ z = false) ∧ Below w.heap.size w wr) (fun i _ => m.length - (intOf i).toNat)
        case atStart => exact ⟨0, [], Nat.zero_le _, by omega, rfl, HLW6.out, Nat.le_refl _, by simp, HB6.out⟩
        case round =>
          obtain ⟨j, D, hj, hj60, rfl, hla, hD, hun, hbr⟩ := hrel
          have HLW7 := Lib.hid hla
          have HB7 := Lib.hid hbr
          have HU7 := Lib.hid hun
          clear hla hbr hun
          by_cases hlt : j < m.length ∧ j < 15
          · obtain ⟨hlt, h60⟩ := hlt
            have d0 : decide ((j : Int) < (m.length : Int)) = true := decide_eq_true (by omega)
            have d1 : decide ((j : Int) < 15) = true := decide_eq_true (by omega)
            obtain ⟨y, hy⟩ : ∃ y, m[j]? = some y := ⟨_, List.getElem?_eq_getElem hlt⟩
            obtain ⟨a1, rfl, hc1⟩ := (HR2.out.keep HB7.out).2.2 (by omega)
            obtain ⟨k0, k1, k2, k3, k4⟩ := cells_aq hc1 hy
            have s1 : IntKind.i64.wrap ((j : Int) + 1) = (j : Int) + 1 := IntWalk.i64_in _ (by omega)
            have s5 : IntKind.i64.wrap (100 + (j : Int)) = 100 + (j : Int) := IntWalk.i64_in _ (by omega)
            have hlen7 : (lr ++ markZ :: D).length ≤ 1000000 := by simp; omega
            clear hc1 hy k0 k1 k3 k4
            go_wp2_with fail
            refine (names_keep _ _).mono ?_
            rintro e w8 ⟨rfl, b8⟩
            have HLW8 := Lib.hid (HLW7.out.keep b8)
            have HB8 := Lib.hid (below_then HB7.out HB7.out.size b8)
            clear b8 k2
            generalize nameAt (y.n.tmod 4) = nm8
            go_wp2_with fail
            refine (pushW _ _ q _ _ _ _ nm8 HLW8.out hlen7).mono ?_
            rintro e w9 ⟨rfl, x, hlw9, b9⟩
            obtain ⟨D', hpu, hD', hun'⟩ := push_behind (p := simN nm8 []) lr markZ (x, ⟨false, 100 + (j : Int), nm8, []⟩) D (mk := mkZ) rfl HU7.out rfl
            rw [hpu] at hlw9
            have HLW9 := Lib.hid hlw9
            have HB9 := Lib.hid (HB8.out.trans b9)
            have HU9 := Lib.hid hun'
            clear hlw9 b9 hpu hun'
            go_wp2_with fail
            exact ⟨⟨j + 1, D', by omega, by omega, by go_num, HLW9.out, by omega, HU9.out, HB9.out⟩, by simp [intOf]; omega⟩
          · have hd : (decide ((j : Int) < (m.length : Int)) = false) ∨ (decide ((j : Int) < (m.length : Int)) = true ∧ decide ((j : Int) < 15) = false) := by
              by_cases h1 : j < m.length
              · exact .inr ⟨decide_eq_true (by omega), decide_eq_false (by omega)⟩
              · exact .inl (decide_eq_false (by omega))
            clear hlt
            rcases hd with d0 | ⟨d0, d1⟩
            have d5 : ¬ (j < m.length) := by have := of_decide_eq_false d0; omega
            rotate_left
            have d2 : ¬ ((j : Int) < 15) := of_decide_eq_false d1
            have d3 : j < m.length := by have := of_decide_eq_true d0; omega
            all_goals
              go_wp2_with fail
              go_meet
              exact ⟨D, HLW7.out, HU7.out, HB7.out⟩
      case rest =>
        obtain ⟨D, hlw, hun7, hb⟩ := hcut
        have HLW7 := Lib.hid hlw
        have HB7 := Lib.hid hb
        have hcl := clearW _ wc q _ _ _ hlw
        rw [clear_behind (mk := mkZ) lr markZ D rfl hun7] at hcl
        have HCL := Lib.hid hcl
        clear hlw hb hcl hun7 hlen1
        go_wp2_with fail
        refine HCL.out.mono ?_
        rintro e w8 ⟨rfl, hlw8, b8⟩
        have HLW8 := Lib.hid hlw8
        have HB8 := Lib.hid (HB7.out.trans b8)
        clear hlw8 b8
        go_wp2_with fail
        refine (lenA _ _ q lr HLW8.out.list).mono ?_
        rintro e w9 ⟨rfl, rfl⟩
        have d9 : ((lr.length : Int) != (lr.length : Int)) = false := by simp
        go_upto_block 6 with (fail)
        go_cut [15] (fun _ wx => Below w8.heap.size w8 wx)
        case first =>
          go_wp2_with fail
          go_loopw [15] (fun i wr => ∃ j : Nat, j ≤ lr.length ∧ i = .int .i64 j ∧ Below w8.heap.size w8 wr) (fun i _ => lr.length - (intOf i).toNat)
          case atStart => exact ⟨0, Nat.zero_le _, rfl, Below.refl _ _⟩
          case round =>
            obtain ⟨j, hj, rfl, hbr⟩ := hrel
            have HBr := Lib.hid hbr
            have HLr := Lib.hid (HLW8.out.keep hbr)
            clear hbr
            by_cases hlt : j < lr.length
            · have d0 : decide ((j : Int) < (lr.length : Int)) = true := decide_eq_true (by omega)
              obtain ⟨z, hz⟩ : ∃ z, lr[j]? = some z := ⟨_, List.getElem?_eq_getElem hlt⟩
              have s1 : IntKind.i64.wrap ((j : Int) + 1) = (j : Int) + 1 := IntWalk.i64_in _ (by omega)
              have HAt := Lib.hid (atA _ _ q lr j z HLr.out.list hz)
              have HZM := Lib.hid (List.mem_of_getElem? hz)
              have hzr : (lr.map Prod.fst)[j]? = some z.1 := by rw [List.getElem?_map, hz]; rfl
              have HZR := Lib.hid hzr
              have hrl : (lr.map Prod.fst).length = lr.length := List.length_map _
              have HRL := Lib.hid hrl
              clear hz hzr hrl
              go_wp2_with fail
              refine HAt.out.mono ?_
              rintro e w10 ⟨rfl, b10⟩
              have hb11 : Below wr.heap.size wr (w10.alloc (.cells (enc_entry z.1).toArray 33)) := b10.alloc b10.size _
              obtain ⟨hvc, _⟩ := var_entry (x := z.1) (Blk.new w10 33 (enc_entry z.1).toArray (0, 0))
              have c0 := hvc 0 _ rfl; have c1 := hvc 1 _ rfl; have c2 := hvc 2 _ rfl; have c3 := hvc 3 _ rfl
              have HLW11 := Lib.hid (HLr.out.keep hb11)
              have HB11 := Lib.hid (below_then HBr.out HBr.out.size hb11)
              obtain ⟨g, cap, rest, hv8, _, hbk, _, _, _⟩ := own_parts HLW11.out.row (by rw [List.length_map]; omega)
              rw [HRL.out] at hv8
              subst hv8
              have hmc : ∀ k u, (enc_entry z.1)[k]? = some u → (w10.alloc (.cells (enc_entry z.1).toArray 33)).cell? ⟨g, j * 4 + k, none⟩ = some u := fun k u hu => by
                rw [hbk.cell]
                have hr := row_at encOk_entry (lr.map Prod.fst) j k z.1 u HZR.out hu
                simp only [List.getElem?_toArray]
                rw [List.getElem?_append_left (List.getElem?_eq_some_iff.1 hr).1]
                exact hr
              have m0 := hmc 0 _ rfl; have m1 := hmc 1 _ rfl; have m2 := hmc 2 _ rfl; have m3 := hmc 3 _ rfl
              simp only [Nat.add_zero] at m0
              obtain ⟨w11, hw11⟩ : ∃ w11, w11 = w10.alloc (.cells (enc_entry z.1).toArray 33) := ⟨_, rfl⟩
              rw [← hw11] at HB11 HLW11 c0 c1 c2 c3 m0 m1 m2 m3
              have hl8 : (0 : Int) ≤ (j : Int) := by omega
              have hl9 : (j : Int) < (lr.length : Int) := by omega
              clear hvc hmc hb11 b10 hbk
              simp only [val_entry]
              go_upto_region 34 with (fail)
              rw [show w10.alloc (.cells #[.bool z.1.marker, .int .i64 z.1.h, .string z.1.name, .slice z.1.a z.1.n z.1.c] 33) = w11 from hw11.symm]
              clear hw11
              have hB0 := made_drew w11
              have keepS : ∀ W, Below w11.heap.size w11 W → ((W.cell? ⟨w10.heap.size, 0, none⟩ = some (.bool z.1.marker) ∧ W.cell? ⟨w10.heap.size, 1, none⟩ = some (.int .i64 z.1.h) ∧ W.cell? ⟨w10.heap.size, 2, none⟩ = some (.string z.1.name) ∧ W.cell? ⟨w10.heap.size, 3, none⟩ = some (.slice z.1.a z.1.n z.1.c)) ∧
                (W.cell? ⟨g, j * 4, none⟩ = some (.bool z.1.marker) ∧ W.cell? ⟨g, j * 4 + 1, none⟩ = some (.int .i64 z.1.h) ∧ W.cell? ⟨g, j * 4 + 2, none⟩ = some (.string z.1.name) ∧ W.cell? ⟨g, j * 4 + 3, none⟩ = some (.slice z.1.a z.1.n z.1.c)) ∧ Below w11.heap.size w11 W) := fun W hW =>
                ⟨⟨cell_keep hW c0, cell_keep hW c1, cell_keep hW c2, cell_keep hW c3⟩, ⟨cell_keep hW m0, cell_keep hW m1, cell_keep hW m2, cell_keep hW m3⟩, hW⟩
              have KS := Lib.hid keepS
              clear keepS
              go_region_held3 (fun W => (W.cell? ⟨w10.heap.size, 0, none⟩ = some (.bool z.1.marker) ∧ W.cell? ⟨w10.heap.size, 1, none⟩ = some (.int .i64 z.1.h) ∧ W.cell? ⟨w10.heap.size, 2, none⟩ = some (.string z.1.name) ∧ W.cell? ⟨w10.heap.size, 3, none⟩ = some (.slice z.1.a z.1.n z.1.c)) ∧
                (W.cell? ⟨g, j * 4, none⟩ = some (.bool z.1.marker) ∧ W.cell? ⟨g, j * 4 + 1, none⟩ = some (.int .i64 z.1.h) ∧ W.cell? ⟨g, j * 4 + 2, none⟩ = some (.string z.1.name) ∧ W.cell? ⟨g, j * 4 + 3, none⟩ = some (.slice z.1.a z.1.n z.1.c)) ∧ Below w11.heap.size w11 W)
                (first | exact KS.out _ hB0 | exact KS.out _ hB12)
                ((go_at_call 25
                  obtain ⟨F, hrep⟩ := (HLW11.out.keep hB0).list.rep HZM.out
                  refine (same19 _ z.1 z.1 F F z.2 hrep hrep).mono ?_
                  rintro e w12 ⟨rfl, b12⟩
                  have hB12 : Below w11.heap.size w11 w12 := below_then hB0 hB0.size b12))
              go_wp2_with fail
              exact ⟨⟨j + 1, by omega, by go_num, below_then HB11.out (Nat.le_trans HB11.out.size (Nat.le_refl _)) hB12⟩, by simp [intOf]; omega⟩
            · have d0 : decide ((j : Int) < (lr.length : Int)) = false := decide_eq_false (by omega)
              go_wp2_with fail
              go_meet
              exact HBr.out
        case rest =>
          have HB9 := Lib.hid hcut
          have HLW9 := Lib.hid (HLW8.out.keep hcut)
          have hf2 := from_m2 _ wc q _ (fun _ => true) HLW9.out.list (tells_2 _)
          rw [from_yes] at hf2
          have HF2 := Lib.hid hf2
          have d10 : ((lr.length : Int) == (lr.length : Int)) = true := by simp
          clear hf2 hcut
          go_wp2_with fail
          refine HF2.out.mono ?_
          rintro e w10 ⟨rfl, b10⟩
          have hf3 := from_m3 _ w10 q _ (fun _ => false) (HLW9.out.keep b10).list (tells_3 _)
          rw [from_no _ HU.out, show ((0 : Nat) : Int) = 0 from rfl] at hf3
          have HF3 := Lib.hid hf3
          have HB10 := Lib.hid (below_then HB8.out HB8.out.size (below_then HB9.out HB9.out.size b10))
          clear hf3 b10
          go_wp2_with fail
          refine HF3.out.mono ?_
          rintro e w11 ⟨rfl, b11⟩
          have HB11 := Lib.hid (below_then HB10.out HB10.out.size b11)
          clear b11
          go_wp2_with fail
          refine (knownAct_any _).mono ?_
          rintro e w12 ⟨rfl, b12⟩
          have HB12 := Lib.hid (below_then HB11.out HB11.out.size b12)
          clear b12
          go_wp2_with fail
          go_ret
          exact ⟨rfl, HB12.out⟩
end Go.Proofs.Ytoehpladbdefkaa
