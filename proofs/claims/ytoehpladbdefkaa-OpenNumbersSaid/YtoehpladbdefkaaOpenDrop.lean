/- arbourlaw18.drop (printed by wip/tools/gendrop.py). -/
import Derived.Test.YtoehpladbdefkaaOpenRef2
import Derived.Deep.RegionWith
import Derived.Deep.CutBlock
import Derived.Deep.DeepCutAuto
namespace Go.Proofs.Ytoehpladbdefkaa
open Go.RowKit

theorem trim_end {p : It → Bool} {l : List It} {m : Nat} {y : It} (h : l[m]? = some y) (hp : p y = false) : trim p (l.take (m + 1)) = l.take (m + 1) := by rw [take_last h]; exact trim_stop hp
theorem trim_next {p : It → Bool} {l : List It} {m : Nat} {y : It} (h : l[m]? = some y) (hp : p y = true) : trim p (l.take (m + 1)) = trim p (l.take m) := by rw [take_last h]; exact trim_on hp

set_option maxHeartbeats 4000000 in
set_option maxRecDepth 100000 in
theorem drop7_18 (w : World) (A2 : Option Addr) (n c2 : Nat) (l : List It) (A : Option Addr) (c : Nat) (b : ByteArray) (h : RdI w A2 n l) (hr : Rd w A 1 1 (strs [b])) (hn : n ≤ c2) (hsm : n ≤ 1000000) :
    Calls Try.prog 103 #[.slice A2 n c2, .int .i64 7, .slice A 1 c] w fun e w' => e = .returned (.slice A2 (trim (implyP b) l).length c2) ∧ Below w.heap.size w w' ∧ trim (implyP b) l <+: l := by
  have HL := Lib.hid h
  have HLN := Lib.hid h.1
  have HR := Lib.hid hr
  clear h hr
  go_enter Try.func103, Try.ntmps103
  go_upto_block 0 with (fail)
  go_cut [0] (fun s0 wx => s0 = .slice A2 (trim (implyP b) l).length c2 ∧ Hid (Below w.heap.size w wx) ∧ Hid (trim (implyP b) l <+: l))
  case rest =>
    obtain ⟨rfl, HB, HP⟩ := hcut
    go_wp2_with fail
    go_ret
    exact ⟨rfl, HB.out, HP.out⟩
  case first =>
    go_wp2_with fail
    go_loopw [0, 7] (fun s0 i wr => ∃ m : Nat, m ≤ n ∧ s0 = .slice A2 m c2 ∧ i = .int .i64 (m : Int) ∧ Hid (Below w.heap.size w wr) ∧ Hid (trim (implyP b) l = trim (implyP b) (l.take m))) (fun _ i _ => (intOf i).toNat)
    case atStart => exact ⟨n, Nat.le_refl _, rfl, rfl, Below.refl _ _, Lib.hid (by rw [List.take_of_length_le (by have := HLN.out; omega)])⟩
    case round =>
      obtain ⟨m, hm, rfl, rfl, HB, HT⟩ := hrel
      cases m with
      | zero =>
        go_wp2_with fail
        go_meet
        have e : trim (implyP b) l = [] := by rw [HT.out]; rfl
        rw [e]
        exact ⟨rfl, HB.out, List.nil_prefix⟩
      | succ m =>
        have hml : m < l.length := by have := HLN.out; omega
        obtain ⟨y, hy⟩ : ∃ y, l[m]? = some y := ⟨_, List.getElem?_eq_getElem hml⟩
        obtain ⟨ad, rfl, k0, k1, k2, k3⟩ := rdI_at (HL.out.keep HB.out) hy
        have HEND := Lib.hid (trim_end (p := (implyP b)) hy)
        have HNXT := Lib.hid (trim_next (p := (implyP b)) hy)
        have hlt : (l.take (m + 1)).length = m + 1 := by rw [List.length_take]; omega
        have HLT := Lib.hid hlt
        have hba : Below wr.heap.size wr (wr.alloc (.cells (enc_item y).toArray 50)) := (Below.refl _ _).alloc (Nat.le_refl _) _
        have HBA := Lib.hid (below_then HB.out HB.out.size hba)
        have HVB := Lib.hid (Blk.new wr 50 (enc_item y).toArray (0, 0))
        obtain ⟨w2, hw2⟩ : ∃ w2, w2 = wr.alloc (.cells (enc_item y).toArray 50) := ⟨_, rfl⟩
        rw [← hw2] at HBA HVB
        have hsz2 : wr.heap.size < w2.heap.size := Blk.lt HVB.out
        have HW2 := Lib.hid hw2.symm
        have s1 : IntKind.i64.wrap (((m + 1 : Nat) : Int) - 1) = (m : Int) := by rw [show ((m + 1 : Nat) : Int) - 1 = (m : Int) by omega]; exact IntWalk.i64_in _ (by omega)
        have s2 : IntKind.i64.wrap ((m : Int)) = (m : Int) := IntWalk.i64_in _ (by omega)
        have d1 : decide ((m : Int) + 1 > 0) = true := decide_eq_true (by omega)
        have d2 : decide (((m + 1 : Nat) : Int) > 0) = true := decide_eq_true (by omega)
        have i0 : (0 : Int) ≤ (m : Int) := by omega
        have i1 : (m : Int) < ((m + 1 : Nat) : Int) := by omega
        have i2 : (m : Int) ≤ (c2 : Int) := by omega
        have i3 : m ≤ c2 := by omega
        have e1 : (m : Int) + 1 - 1 = (m : Int) := by omega
        have i4 : (m : Int) < (m : Int) + 1 := by omega
        clear hy hba hw2 hlt
        go_upto_region 5 with (fail)
        rw [show wr.alloc (.cells #[.int .i64 y.h, .int .i64 y.ns, .string y.name, .slice y.a y.n y.c] 50) = w2 from HW2.out]
        clear k0 k1 k2 k3
        go_upto_block 2 with (fail)
        go_cut [9] (fun s9 wx => s9 = .bool ((implyP b) y) ∧ Hid (Below w.heap.size w wx))
        case first =>
          obtain ⟨hvc, _⟩ := var_item (x := y) HVB.out
          have c0 := hvc 0 _ rfl; have c1 := hvc 1 _ rfl; have c2' := hvc 2 _ rfl; have c3 := hvc 3 _ rfl
          have HVC := Lib.hid hvc
          clear hvc
          have HI := Lib.hid (is18 (w2.alloc (.cells (strs impliedN).toArray 9)).drew y (some ⟨w2.heap.size, 0, none⟩) 4 impliedN ((rd_lit w2 9 impliedN).keep (made_drew _)) (by decide))
          have HBL := Lib.hid (show Below w2.heap.size w2 (w2.alloc (.cells (strs impliedN).toArray 9)).drew from ((Below.refl _ _).alloc (Nat.le_refl _) _).drew)
          obtain ⟨bq, hq⟩ : ∃ b, isN impliedN y = b := ⟨_, rfl⟩
          obtain ⟨bn, hn1⟩ : ∃ z, (y.name.toList == b.toList) = z := ⟨_, rfl⟩
          have HRES := Lib.hid (show implyP b y = (bq && !bn) from by unfold implyP; rw [← hq, ← hn1]; unfold isN; rw [Bool.and_assoc])
          rw [hq] at HI
          have HN := Lib.hid hn1
          unfold enc_item at c0 c1 c2' c3
          clear hq hn1
          cases bq
          all_goals
            go_upto_region 8 with (fail)
            first
            | go_region_with ((
                go_at_call 51
                refine HI.out.mono ?_
                rintro e w4 ⟨rfl, b4⟩
                have HB4 := Lib.hid (below_then HBA.out HBA.out.size (below_then HBL.out HBL.out.size b4))
                have p2 := cell_keep b4 (cell_keep HBL.out (HVC.out 2 _ rfl))
                obtain ⟨an, hne, hcn⟩ := (HR.out.keep HB4.out).2.2 (by decide)
                cases hne
                have q0 : w4.cell? an = some (.string b) := strs_at (j := 0) hcn rfl
                clear hcn b4))
            | fail
          all_goals
            go_wp2_with fail
            go_meet
            exact ⟨by rw [HRES.out]; first | rfl | (rw [← HN.out]; rfl), HB4.out⟩
        case rest =>
          obtain ⟨rfl, HB5⟩ := hcut
          obtain ⟨bp, hbp⟩ : ∃ z, (implyP b) y = z := ⟨_, rfl⟩
          rw [hbp]
          have HE0 := Lib.hid (fun e : bp = false => HEND.out (hbp.trans e))
          have HN0 := Lib.hid (fun e : bp = true => HNXT.out (hbp.trans e))
          clear hbp HEND HNXT
          cases bp
          · have HE := Lib.hid (HE0.out rfl)
            clear HE0 HN0
            go_wp2_with fail
            go_meet
            have e : trim (implyP b) l = l.take (m + 1) := by rw [HT.out, HE.out]
            rw [e, HLT.out]
            exact ⟨by first | rfl | go_num, HB5.out, List.take_prefix _ _⟩
          · have HE := Lib.hid (HN0.out rfl)
            clear HE0 HN0
            go_wp2_with fail
            exact ⟨⟨m, by omega, rfl, rfl, HB5.out, HT.out.trans HE.out⟩, by simp [intOf]⟩

set_option maxHeartbeats 4000000 in
set_option maxRecDepth 100000 in
theorem drop8_18 (w : World) (A2 : Option Addr) (n c2 : Nat) (l : List It)  (h : RdI w A2 n l) (hn : n ≤ c2) (hsm : n ≤ 1000000) :
    Calls Try.prog 103 #[.slice A2 n c2, .int .i64 8, .slice none 0 0] w fun e w' => e = .returned (.slice A2 (trim thoroughP l).length c2) ∧ Below w.heap.size w w' ∧ trim thoroughP l <+: l := by
  have HL := Lib.hid h
  have HLN := Lib.hid h.1
  clear h
  go_enter Try.func103, Try.ntmps103
  go_upto_block 0 with (fail)
  go_cut [0] (fun s0 wx => s0 = .slice A2 (trim thoroughP l).length c2 ∧ Hid (Below w.heap.size w wx) ∧ Hid (trim thoroughP l <+: l))
  case rest =>
    obtain ⟨rfl, HB, HP⟩ := hcut
    go_wp2_with fail
    go_ret
    exact ⟨rfl, HB.out, HP.out⟩
  case first =>
    go_wp2_with fail
    go_loopw [0, 7] (fun s0 i wr => ∃ m : Nat, m ≤ n ∧ s0 = .slice A2 m c2 ∧ i = .int .i64 (m : Int) ∧ Hid (Below w.heap.size w wr) ∧ Hid (trim thoroughP l = trim thoroughP (l.take m))) (fun _ i _ => (intOf i).toNat)
    case atStart => exact ⟨n, Nat.le_refl _, rfl, rfl, Below.refl _ _, Lib.hid (by rw [List.take_of_length_le (by have := HLN.out; omega)])⟩
    case round =>
      obtain ⟨m, hm, rfl, rfl, HB, HT⟩ := hrel
      cases m with
      | zero =>
        go_wp2_with fail
        go_meet
        have e : trim thoroughP l = [] := by rw [HT.out]; rfl
        rw [e]
        exact ⟨rfl, HB.out, List.nil_prefix⟩
      | succ m =>
        have hml : m < l.length := by have := HLN.out; omega
        obtain ⟨y, hy⟩ : ∃ y, l[m]? = some y := ⟨_, List.getElem?_eq_getElem hml⟩
        obtain ⟨ad, rfl, k0, k1, k2, k3⟩ := rdI_at (HL.out.keep HB.out) hy
        have HEND := Lib.hid (trim_end (p := thoroughP) hy)
        have HNXT := Lib.hid (trim_next (p := thoroughP) hy)
        have hlt : (l.take (m + 1)).length = m + 1 := by rw [List.length_take]; omega
        have HLT := Lib.hid hlt
        have hba : Below wr.heap.size wr (wr.alloc (.cells (enc_item y).toArray 50)) := (Below.refl _ _).alloc (Nat.le_refl _) _
        have HBA := Lib.hid (below_then HB.out HB.out.size hba)
        have HVB := Lib.hid (Blk.new wr 50 (enc_item y).toArray (0, 0))
        obtain ⟨w2, hw2⟩ : ∃ w2, w2 = wr.alloc (.cells (enc_item y).toArray 50) := ⟨_, rfl⟩
        rw [← hw2] at HBA HVB
        have hsz2 : wr.heap.size < w2.heap.size := Blk.lt HVB.out
        have HW2 := Lib.hid hw2.symm
        have s1 : IntKind.i64.wrap (((m + 1 : Nat) : Int) - 1) = (m : Int) := by rw [show ((m + 1 : Nat) : Int) - 1 = (m : Int) by omega]; exact IntWalk.i64_in _ (by omega)
        have s2 : IntKind.i64.wrap ((m : Int)) = (m : Int) := IntWalk.i64_in _ (by omega)
        have d1 : decide ((m : Int) + 1 > 0) = true := decide_eq_true (by omega)
        have d2 : decide (((m + 1 : Nat) : Int) > 0) = true := decide_eq_true (by omega)
        have i0 : (0 : Int) ≤ (m : Int) := by omega
        have i1 : (m : Int) < ((m + 1 : Nat) : Int) := by omega
        have i2 : (m : Int) ≤ (c2 : Int) := by omega
        have i3 : m ≤ c2 := by omega
        have e1 : (m : Int) + 1 - 1 = (m : Int) := by omega
        have i4 : (m : Int) < (m : Int) + 1 := by omega
        clear hy hba hw2 hlt
        go_upto_region 5 with (fail)
        rw [show wr.alloc (.cells #[.int .i64 y.h, .int .i64 y.ns, .string y.name, .slice y.a y.n y.c] 50) = w2 from HW2.out]
        clear k0 k1 k2 k3
        go_upto_block 2 with (fail)
        go_cut [9] (fun s9 wx => s9 = .bool (thoroughP y) ∧ Hid (Below w.heap.size w wx))
        case first =>
          obtain ⟨hvc, _⟩ := var_item (x := y) HVB.out
          have c0 := hvc 0 _ rfl; have c1 := hvc 1 _ rfl; have c2' := hvc 2 _ rfl; have c3 := hvc 3 _ rfl
          have HVC := Lib.hid hvc
          clear hvc
          have HTH := Lib.hid (ref_thorough w2 y.name)
          obtain ⟨bn, hbn⟩ : ∃ b, (y.ns == 1) = b := ⟨_, rfl⟩
          obtain ⟨bt, hbt⟩ : ∃ b, (inB y.name thoroughN || inB y.name impliedN) = b := ⟨_, rfl⟩
          have HRES := Lib.hid (show thoroughP y = (bn && bt) from by unfold thoroughP; rw [hbn, hbt])
          rw [hbt] at HTH
          unfold enc_item at c0 c1 c2' c3
          clear hbt
          cases bn
          · go_wp2_with fail
            go_meet
            exact ⟨by rw [HRES.out]; rfl, HBA.out⟩
          · go_wp2_with fail
            refine HTH.out.mono ?_
            rintro e w4 ⟨rfl, b4⟩
            have HB4 := Lib.hid (below_then HBA.out HBA.out.size b4)
            clear b4
            go_wp2_with fail
            go_meet
            exact ⟨by rw [HRES.out]; rfl, HB4.out⟩
        case rest =>
          obtain ⟨rfl, HB5⟩ := hcut
          obtain ⟨bp, hbp⟩ : ∃ z, thoroughP y = z := ⟨_, rfl⟩
          rw [hbp]
          have HE0 := Lib.hid (fun e : bp = false => HEND.out (hbp.trans e))
          have HN0 := Lib.hid (fun e : bp = true => HNXT.out (hbp.trans e))
          clear hbp HEND HNXT
          cases bp
          · have HE := Lib.hid (HE0.out rfl)
            clear HE0 HN0
            go_wp2_with fail
            go_meet
            have e : trim thoroughP l = l.take (m + 1) := by rw [HT.out, HE.out]
            rw [e, HLT.out]
            exact ⟨by first | rfl | go_num, HB5.out, List.take_prefix _ _⟩
          · have HE := Lib.hid (HN0.out rfl)
            clear HE0 HN0
            go_wp2_with fail
            exact ⟨⟨m, by omega, rfl, rfl, HB5.out, HT.out.trans HE.out⟩, by simp [intOf]⟩

set_option maxHeartbeats 4000000 in
set_option maxRecDepth 100000 in
theorem drop9_18 (w : World) (A2 : Option Addr) (n c2 : Nat) (l : List It) (A : Option Addr) (c : Nat) (names : List ByteArray) (h : RdI w A2 n l) (hr : Rd w A names.length 1 (strs names)) (hb : names.length ≤ 9223372036854775807) (hn : n ≤ c2) (hsm : n ≤ 1000000) :
    Calls Try.prog 103 #[.slice A2 n c2, .int .i64 9, .slice A names.length c] w fun e w' => e = .returned (.slice A2 (trim (clearP names) l).length c2) ∧ Below w.heap.size w w' ∧ trim (clearP names) l <+: l := by
  have HL := Lib.hid h
  have HLN := Lib.hid h.1
  have HR := Lib.hid hr
  clear h hr
  go_enter Try.func103, Try.ntmps103
  go_upto_block 0 with (fail)
  go_cut [0] (fun s0 wx => s0 = .slice A2 (trim (clearP names) l).length c2 ∧ Hid (Below w.heap.size w wx) ∧ Hid (trim (clearP names) l <+: l))
  case rest =>
    obtain ⟨rfl, HB, HP⟩ := hcut
    go_wp2_with fail
    go_ret
    exact ⟨rfl, HB.out, HP.out⟩
  case first =>
    go_wp2_with fail
    go_loopw [0, 7] (fun s0 i wr => ∃ m : Nat, m ≤ n ∧ s0 = .slice A2 m c2 ∧ i = .int .i64 (m : Int) ∧ Hid (Below w.heap.size w wr) ∧ Hid (trim (clearP names) l = trim (clearP names) (l.take m))) (fun _ i _ => (intOf i).toNat)
    case atStart => exact ⟨n, Nat.le_refl _, rfl, rfl, Below.refl _ _, Lib.hid (by rw [List.take_of_length_le (by have := HLN.out; omega)])⟩
    case round =>
      obtain ⟨m, hm, rfl, rfl, HB, HT⟩ := hrel
      cases m with
      | zero =>
        go_wp2_with fail
        go_meet
        have e : trim (clearP names) l = [] := by rw [HT.out]; rfl
        rw [e]
        exact ⟨rfl, HB.out, List.nil_prefix⟩
      | succ m =>
        have hml : m < l.length := by have := HLN.out; omega
        obtain ⟨y, hy⟩ : ∃ y, l[m]? = some y := ⟨_, List.getElem?_eq_getElem hml⟩
        obtain ⟨ad, rfl, k0, k1, k2, k3⟩ := rdI_at (HL.out.keep HB.out) hy
        have HEND := Lib.hid (trim_end (p := (clearP names)) hy)
        have HNXT := Lib.hid (trim_next (p := (clearP names)) hy)
        have hlt : (l.take (m + 1)).length = m + 1 := by rw [List.length_take]; omega
        have HLT := Lib.hid hlt
        have hba : Below wr.heap.size wr (wr.alloc (.cells (enc_item y).toArray 50)) := (Below.refl _ _).alloc (Nat.le_refl _) _
        have HBA := Lib.hid (below_then HB.out HB.out.size hba)
        have HVB := Lib.hid (Blk.new wr 50 (enc_item y).toArray (0, 0))
        obtain ⟨w2, hw2⟩ : ∃ w2, w2 = wr.alloc (.cells (enc_item y).toArray 50) := ⟨_, rfl⟩
        rw [← hw2] at HBA HVB
        have hsz2 : wr.heap.size < w2.heap.size := Blk.lt HVB.out
        have HW2 := Lib.hid hw2.symm
        have s1 : IntKind.i64.wrap (((m + 1 : Nat) : Int) - 1) = (m : Int) := by rw [show ((m + 1 : Nat) : Int) - 1 = (m : Int) by omega]; exact IntWalk.i64_in _ (by omega)
        have s2 : IntKind.i64.wrap ((m : Int)) = (m : Int) := IntWalk.i64_in _ (by omega)
        have d1 : decide ((m : Int) + 1 > 0) = true := decide_eq_true (by omega)
        have d2 : decide (((m + 1 : Nat) : Int) > 0) = true := decide_eq_true (by omega)
        have i0 : (0 : Int) ≤ (m : Int) := by omega
        have i1 : (m : Int) < ((m + 1 : Nat) : Int) := by omega
        have i2 : (m : Int) ≤ (c2 : Int) := by omega
        have i3 : m ≤ c2 := by omega
        have e1 : (m : Int) + 1 - 1 = (m : Int) := by omega
        have i4 : (m : Int) < (m : Int) + 1 := by omega
        clear hy hba hw2 hlt
        go_upto_region 5 with (fail)
        rw [show wr.alloc (.cells #[.int .i64 y.h, .int .i64 y.ns, .string y.name, .slice y.a y.n y.c] 50) = w2 from HW2.out]
        clear k0 k1 k2 k3
        go_upto_block 2 with (fail)
        go_cut [9] (fun s9 wx => s9 = .bool ((clearP names) y) ∧ Hid (Below w.heap.size w wx))
        case first =>
          obtain ⟨hvc, _⟩ := var_item (x := y) HVB.out
          have c0 := hvc 0 _ rfl; have c1 := hvc 1 _ rfl; have c2' := hvc 2 _ rfl; have c3 := hvc 3 _ rfl
          have HVC := Lib.hid hvc
          clear hvc
          have HI := Lib.hid (is18 w2 y A c names (HR.out.keep HBA.out) hb)
          obtain ⟨bq, hq⟩ : ∃ b, isN names y = b := ⟨_, rfl⟩
          obtain ⟨br, hr2⟩ : ∃ b, isN rootsN y = b := ⟨_, rfl⟩
          have HRES := Lib.hid (show clearP names y = (!bq && !br) from by unfold clearP; rw [hq, hr2])
          have HJ := Lib.hid (fun W => is18 (W.alloc (.cells (strs rootsN).toArray 9)) y (some ⟨W.heap.size, 0, none⟩) 2 rootsN (rd_lit W 9 rootsN) (by decide))
          rw [hq] at HI
          rw [hr2] at HJ
          unfold enc_item at c0 c1 c2' c3
          clear hq hr2
          cases bq
          · go_wp2_with fail
            refine HI.out.mono ?_
            rintro e w4 ⟨rfl, b4⟩
            have HB4 := Lib.hid (below_then HBA.out HBA.out.size b4)
            have p0 := cell_keep b4 (HVC.out 0 _ rfl); have p1 := cell_keep b4 (HVC.out 1 _ rfl); have p2 := cell_keep b4 (HVC.out 2 _ rfl); have p3 := cell_keep b4 (HVC.out 3 _ rfl)
            have HBL := Lib.hid (show Below w4.heap.size w4 (w4.alloc (.cells (strs rootsN).toArray 9)) from (Below.refl _ _).alloc (Nat.le_refl _) _)
            clear b4 c0 c1 c2' c3
            go_wp2_with fail
            refine (HJ.out w4).mono ?_
            rintro e w5 ⟨rfl, b5⟩
            have HB5 := Lib.hid (below_then HB4.out HB4.out.size (below_then HBL.out HBL.out.size b5))
            clear b5
            go_wp2_with fail
            go_meet
            exact ⟨by rw [HRES.out]; rfl, HB5.out⟩
          · go_wp2_with fail
            refine HI.out.mono ?_
            rintro e w4 ⟨rfl, b4⟩
            have HB4 := Lib.hid (below_then HBA.out HBA.out.size b4)
            clear b4
            go_wp2_with fail
            go_meet
            exact ⟨by rw [HRES.out]; rfl, HB4.out⟩
        case rest =>
          obtain ⟨rfl, HB5⟩ := hcut
          obtain ⟨bp, hbp⟩ : ∃ z, (clearP names) y = z := ⟨_, rfl⟩
          rw [hbp]
          have HE0 := Lib.hid (fun e : bp = false => HEND.out (hbp.trans e))
          have HN0 := Lib.hid (fun e : bp = true => HNXT.out (hbp.trans e))
          clear hbp HEND HNXT
          cases bp
          · have HE := Lib.hid (HE0.out rfl)
            clear HE0 HN0
            go_wp2_with fail
            go_meet
            have e : trim (clearP names) l = l.take (m + 1) := by rw [HT.out, HE.out]
            rw [e, HLT.out]
            exact ⟨by first | rfl | go_num, HB5.out, List.take_prefix _ _⟩
          · have HE := Lib.hid (HN0.out rfl)
            clear HE0 HN0
            go_wp2_with fail
            exact ⟨⟨m, by omega, rfl, rfl, HB5.out, HT.out.trans HE.out⟩, by simp [intOf]⟩

end Go.Proofs.Ytoehpladbdefkaa
