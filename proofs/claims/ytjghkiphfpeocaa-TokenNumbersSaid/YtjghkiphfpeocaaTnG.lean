/- arbourref8.Right at the tokens of TokenNumbers: a name that may be a tag's: the two loops (printed). -/
import Derived.Test.YtjghkiphfpeocaaTnR
import Derived.Test.YtjghkiphfpeocaaMarkR
import Derived.Test.YtjghkiphfpeocaaScanR
import Derived.LoopN
namespace Go.Proofs.Ytjghkiphfpeocaa
open Go.RowKit Go.BigFrame

theorem byte_ne {c : UInt8} {n : Nat} (hn : n < 256) (h : c ≠ UInt8.ofNat n) : ((c.toNat : Int) == (n : Int)) = false := by
  rw [beq_eq_false_iff_ne]
  intro e
  exact h (UInt8.toNat_inj.1 (by rw [UInt8.toNat_ofNat']; omega))
def nmOk (c : UInt8) : Bool := !(spaceB c || c == 47 || c == 62)
def okAt (al : List At) (j : Nat) : Bool := match al[j]? with
  | some a => !decide (a.name.size = 0) && decide (findA al a.name = (j : Int))
  | none => true
def passR (nm : ByteArray) (al : List At) : Bool := (B nm).all nmOk && (List.range al.length).all (okAt al)
theorem nmOk_bad (nm : ByteArray) (al : List At) {j : Nat} (hj : j < nm.size) (h : nmOk nm[j] = false) : passR nm al = false := by
  unfold passR
  have : (B nm).all nmOk = false := by
    rw [← Bool.not_eq_true, List.all_eq_true]
    intro hh
    have := hh nm[j] (List.mem_of_getElem? (B_at nm j hj))
    rw [h] at this
    cases this
  rw [this, Bool.false_and]
theorem okAt_bad (nm : ByteArray) (al : List At) {j : Nat} (hj : j < al.length) (h : okAt al j = false) : passR nm al = false := by
  unfold passR
  have : (List.range al.length).all (okAt al) = false := by
    rw [← Bool.not_eq_true, List.all_eq_true]
    intro hh
    have := hh j (List.mem_range.2 hj)
    rw [h] at this
    cases this
  rw [this, Bool.and_false]
theorem okAt_step (al : List At) {j : Nat} (h0 : (List.range j).all (okAt al) = true) (h : okAt al j = true) : (List.range (j + 1)).all (okAt al) = true := by
  rw [List.range_succ, List.all_append, h0]
  simp [h]
theorem nm_step (nm : ByteArray) {j : Nat} (hj : j < nm.size) (h0 : ((B nm).take j).all nmOk = true) (h : nmOk nm[j] = true) : ((B nm).take (j + 1)).all nmOk = true := by
  rw [List.take_add_one, B_at nm j hj, List.all_append, h0]
  show (true && (nmOk nm[j] && true)) = true
  rw [h]; rfl

set_option maxRecDepth 100000 in
set_option maxHeartbeats 8000000 in
theorem rr2_pass (w : World) (nm : ByteArray) (n : Nat) (sf : Bool) (A : Option Addr) (c : Nat) (al : List At) (hs : nm.size ≤ 65536) (hn : 0 < nm.size) (hl : letterB (nm[0]'hn) = true) (hle : lowE nm = true) (hr : RdA w A n al) (hb : n ≤ 65536) :
    Calls Try.prog 29 #[.agg #[.int .i64 2, .string nm, .slice A n c, .bool sf, .string ⟨#[]⟩]] w fun e w' => e = .returned (.bool (passR nm al)) ∧ Below w.heap.size w w' := by
  obtain ⟨n1, n2⟩ := list_ne (show ¬ nm.size = 0 by omega)
  have HLt : Hid (∀ w, Calls Try.prog 45 #[.int .i32 (wrap32 ((nm[0]'hn).toNat : Int))] w fun e w' => e = .returned (.bool true) ∧ w = w') := fun w => hl ▸ rletter_rune _ w
  have HLw := Lib.hid (fun w => rlower_any nm w (by omega))
  have hle3 : ((S (lowL (B nm))).toList == nm.toList) = true := hle
  have hle2 : ((S (lowL (B nm))).toList != nm.toList) = false := by rw [bne, hle3]; rfl
  have HS := Lib.hid hs
  have HR := Lib.hid hr
  have HRL := Lib.hid hr.1
  have HBn := Lib.hid hb
  clear n2 hl hle hs hr hb
  have HB0 := Lib.hid (below_tokR w #[.int .i64 2, .string nm, .slice A n c, .bool sf, .string ⟨#[]⟩])
  have HC := Lib.hid (Blk.new w 34 #[.int .i64 2, .string nm, .slice A n c, .bool sf, .string ⟨#[]⟩] (0, 0))
  have k0 := HC.out.cell 0
  have k1 := HC.out.cell 1
  have k2 := HC.out.cell 2
  have k3 := HC.out.cell 3
  have k4 := HC.out.cell 4
  obtain ⟨wz, hwr⟩ : ∃ wz, wz = w.alloc (.cells #[.int .i64 2, .string nm, .slice A n c, .bool sf, .string ⟨#[]⟩] 34) := ⟨_, rfl⟩
  have HWR := Lib.hid hwr
  have hks : ∀ W, Below wz.heap.size wz W → W.cell? ⟨w.heap.size, 0, none⟩ = some (.int .i64 2) ∧ W.cell? ⟨w.heap.size, 1, none⟩ = some (.string nm) ∧ W.cell? ⟨w.heap.size, 2, none⟩ = some (.slice A n c) ∧ W.cell? ⟨w.heap.size, 3, none⟩ = some (.bool sf) ∧ W.cell? ⟨w.heap.size, 4, none⟩ = some (.string ⟨#[]⟩) := fun W hW => by
    have hc := HC.out
    rw [← hwr] at hc
    have hc2 := hc.keep hW
    exact ⟨hc2.cell 0, hc2.cell 1, hc2.cell 2, hc2.cell 3, hc2.cell 4⟩
  have KS := Lib.hid hks
  have HBw := HB0
  rw [← hwr] at HBw
  have HRw := Lib.hid (HR.out.keep HBw.out)
  clear hks hwr
  go_enter Try.func29, Try.ntmps29
  go_upto_region 6 with (fail)
  rw [← HWR.out]
  clear k0 k1 k2 k3 k4
  have j0 := fun m : After wz => (KS.out _ m.below).1
  have j1 := fun m : After wz => (KS.out _ m.below).2.1
  have j2 := fun m : After wz => (KS.out _ m.below).2.2.1
  have j3 := fun m : After wz => (KS.out _ m.below).2.2.2.1
  have j4 := fun m : After wz => (KS.out _ m.below).2.2.2.2
  refine wp_region_after (by kernel_rfl) (by kernel_rfl) ?_
  repeat (any_goals (go_big_quiet_step (first
    | (go_at_call 45; with_reducible exact call_same (HLt.out _))
    | (go_at_call 51; with_reducible exact call_after (HLw.out _)))))
  refine wpQuiet_nil ?_
  rintro w' ⟨m, rfl⟩
  clear j0 j1 j2 j3 j4
  obtain ⟨wa, hwa⟩ : ∃ wa, wa = m.W := ⟨_, rfl⟩
  have HBa : Hid (Below wz.heap.size wz wa) := hwa ▸ m.below
  rw [← hwa]
  clear hwa
  have i1 := (KS.out _ HBa.out).2.1
  go_wp2_with fail
  go_loop [3] (fun i => ∃ j : Nat, j ≤ nm.size ∧ i = .int .i64 j ∧ ((B nm).take j).all nmOk = true) (fun i => nm.size - (intOf i).toNat)
  case atStart => exact ⟨0, Nat.zero_le _, rfl, rfl⟩
  case round =>
    obtain ⟨j, hj, rfl, hall⟩ := hrel
    have HAl := Lib.hid hall
    clear hall
    by_cases hlt : j < nm.size
    · have d0 : decide ((j : Int) < (nm.size : Int)) = true := decide_eq_true (by omega)
      have s1 : IntKind.i64.wrap ((j : Int) + 1) = (j : Int) + 1 := IntWalk.i64_in _ (by have := HS.out; omega)
      have HSp := Lib.hid (fun w => rspace_rune nm[j] w)
      obtain ⟨sp, hsp⟩ : ∃ b, spaceB nm[j] = b := ⟨_, rfl⟩
      rw [hsp] at HSp
      have HQ := Lib.hid hsp
      clear hsp
      cases sp
      case true =>
        go_wp2_with (first | (go_at_call 54; with_reducible refine (HSp.out _).mono ?_; rintro e w' ⟨rfl, rfl⟩))
        go_ret
        refine ⟨ret_bool ?_, below_then HBw.out HBw.out.size HBa.out⟩
        rw [nmOk_bad nm al hlt (by unfold nmOk; rw [HQ.out]; rfl)]
      case false =>
        by_cases h47 : nm[j] = 47
        · have e1 : ((nm[j].toNat : Int) == 47) = true := by rw [h47]; rfl
          have HE := Lib.hid h47
          clear h47
          go_wp2_with (first | (go_at_call 54; with_reducible refine (HSp.out _).mono ?_; rintro e w' ⟨rfl, rfl⟩))
          go_ret
          refine ⟨ret_bool ?_, below_then HBw.out HBw.out.size HBa.out⟩
          rw [nmOk_bad nm al hlt (by unfold nmOk; rw [HQ.out, HE.out]; rfl)]
        · have e1 : ((nm[j].toNat : Int) == 47) = false := byte_ne (n := 47) (by decide) h47
          have HE1 := Lib.hid h47
          clear h47
          by_cases h62 : nm[j] = 62
          · have e2 : ((nm[j].toNat : Int) == 62) = true := by rw [h62]; rfl
            have HE := Lib.hid h62
            clear h62
            go_wp2_with (first | (go_at_call 54; with_reducible refine (HSp.out _).mono ?_; rintro e w' ⟨rfl, rfl⟩))
            go_ret
            refine ⟨ret_bool ?_, below_then HBw.out HBw.out.size HBa.out⟩
            rw [nmOk_bad nm al hlt (by unfold nmOk; rw [HQ.out, HE.out]; rfl)]
          · have e2 : ((nm[j].toNat : Int) == 62) = false := byte_ne (n := 62) (by decide) h62
            have HE2 := Lib.hid h62
            clear h62
            go_wp2_with (first | (go_at_call 54; with_reducible refine (HSp.out _).mono ?_; rintro e w' ⟨rfl, rfl⟩))
            exact ⟨⟨j + 1, by omega, by go_num, nm_step nm hlt HAl.out (by unfold nmOk; rw [HQ.out, show (nm[j] == 47) = false from beq_eq_false_iff_ne.2 HE1.out, show (nm[j] == 62) = false from beq_eq_false_iff_ne.2 HE2.out]; rfl)⟩, by simp [intOf]; omega⟩
    · have d0 : decide ((j : Int) < (nm.size : Int)) = false := decide_eq_false (by omega)
      have HAll : Hid ((B nm).all nmOk = true) := by
        have := HAl.out
        rw [List.take_of_length_le (by rw [← size_B]; omega)] at this
        exact this
      clear HAl
      go_wp2_with fail
      go_loopw [4] (fun i wr => ∃ j : Nat, j ≤ n ∧ i = .int .i64 j ∧ (List.range j).all (okAt al) = true ∧ Below wz.heap.size wz wr) (fun i _ => n - (intOf i).toNat)
      case atStart => exact ⟨0, Nat.zero_le _, rfl, rfl, HBa.out⟩
      case round =>
        obtain ⟨q, hq, rfl, hall, hbx⟩ := hrel
        have HAl := Lib.hid hall
        have HBx := Lib.hid hbx
        clear hall hbx
        have i2 := (KS.out _ HBx.out).2.2.1
        by_cases hlq : q < n
        · have d1 : decide ((q : Int) < (n : Int)) = true := decide_eq_true (by omega)
          have s1 : IntKind.i64.wrap ((q : Int) + 1) = (q : Int) + 1 := IntWalk.i64_in _ (by have := HBn.out; omega)
          obtain ⟨x, hx⟩ : ∃ x, al[q]? = some x := ⟨_, List.getElem?_eq_getElem (by have := HRL.out; omega)⟩
          obtain ⟨a1, rfl, _⟩ := rdA_at (HRw.out.keep HBx.out) hx
          have HK := Lib.hid (fun W (hW : Below wr.heap.size wr W) => rdA_at ((HRw.out.keep HBx.out).keep hW) hx)
          have HH := Lib.hid (fun W (hW : Below wr.heap.size wr W) => has7 W (some a1) n c al x.name ((HRw.out.keep HBx.out).keep hW) (by have := HBn.out; omega))
          have u0 : ∀ m : After wr, m.W.cell? (a1.add (q * 2)) = some (.string x.name) := fun m => by obtain ⟨a, e, k0, k1⟩ := HK.out _ m.below; cases e; exact k0
          have u1 := fun m : After wr => (KS.out _ (below_both HBx.out m.below)).2.2.1
          have HX := Lib.hid hx
          have HQl := Lib.hid (show q < al.length by have := HRL.out; omega)
          clear hx
          have hok : okAt al q = (!decide (x.name.size = 0) && decide (findA al x.name = (q : Int))) := by unfold okAt; rw [HX.out]
          by_cases he : x.name.size = 0
          · have e0 : x.name = ⟨#[]⟩ := size0 he
            have HO := Lib.hid (okAt_bad nm al HQl.out (by rw [hok, he]; rfl))
            rw [e0] at u0
            clear he hok e0
            go_wp2_with fail
            refine wp_region_after (by kernel_rfl) (by kernel_rfl) ?_
            repeat (any_goals (go_big_quiet_step (fail)))
            refine wpQuiet_nil ?_
            rintro w' ⟨m2, rfl⟩
            clear u0 u1
            go_wp2_with fail
            go_ret
            refine ⟨ret_bool ?_, below_then HBw.out HBw.out.size (below_both HBx.out m2.below)⟩
            rw [HO.out]
          · obtain ⟨x1, x2⟩ := list_ne he
            by_cases hf : findA al x.name = (q : Int)
            · have b1 : ((q : Int) != (q : Int)) = false := by simp
              have HO := Lib.hid (okAt_step al HAl.out (by rw [hok, hf, decide_eq_false he, decide_eq_true rfl]; rfl))
              rw [hf] at HH
              clear he hok hf x2
              go_wp2_with fail
              refine wp_region_after (by kernel_rfl) (by kernel_rfl) ?_
              repeat (any_goals (go_big_quiet_step (first | (go_at_call 55; with_reducible exact call_same (HH.out _ (After.below _))))))
              refine wpQuiet_nil ?_
              rintro w' ⟨m2, rfl⟩
              clear u0 u1
              go_wp2_with fail
              exact ⟨⟨q + 1, by omega, by go_num, HO.out, below_both HBx.out m2.below⟩, by simp [intOf]; omega⟩
            · have HO := Lib.hid (okAt_bad nm al HQl.out (by rw [hok, decide_eq_false hf, Bool.and_false]))
              have b1 : ((findA al x.name) != (q : Int)) = true := bne_iff_ne.2 hf
              clear he hok hf x2
              generalize findA al x.name = fv at *
              go_wp2_with fail
              refine wp_region_after (by kernel_rfl) (by kernel_rfl) ?_
              repeat (any_goals (go_big_quiet_step (first | (go_at_call 55; with_reducible exact call_same (HH.out _ (After.below _))))))
              refine wpQuiet_nil ?_
              rintro w' ⟨m2, rfl⟩
              clear u0 u1
              go_wp2_with fail
              go_ret
              refine ⟨ret_bool ?_, below_then HBw.out HBw.out.size (below_both HBx.out m2.below)⟩
              rw [HO.out]
        · have d1 : decide ((q : Int) < (n : Int)) = false := decide_eq_false (by omega)
          go_wp2_with fail
          go_ret
          refine ⟨ret_bool ?_, below_then HBw.out HBw.out.size HBx.out⟩
          unfold passR
          rw [HAll.out, show al.length = q by have := HRL.out; omega, HAl.out]
          rfl

set_option maxRecDepth 100000 in
set_option maxHeartbeats 8000000 in
theorem rr3_pass (w : World) (nm : ByteArray) (A : Option Addr) (c : Nat) (al : List At) (hs : nm.size ≤ 65536) (hn : 0 < nm.size) (hl : letterB (nm[0]'hn) = true) (hle : lowE nm = true) (hr : RdA w A 0 al) (hb : 0 ≤ 65536) :
    Calls Try.prog 29 #[.agg #[.int .i64 3, .string nm, .slice A 0 c, .bool false, .string ⟨#[]⟩]] w fun e w' => e = .returned (.bool (passR nm al)) ∧ Below w.heap.size w w' := by
  obtain ⟨n1, n2⟩ := list_ne (show ¬ nm.size = 0 by omega)
  have HLt : Hid (∀ w, Calls Try.prog 45 #[.int .i32 (wrap32 ((nm[0]'hn).toNat : Int))] w fun e w' => e = .returned (.bool true) ∧ w = w') := fun w => hl ▸ rletter_rune _ w
  have HLw := Lib.hid (fun w => rlower_any nm w (by omega))
  have hle3 : ((S (lowL (B nm))).toList == nm.toList) = true := hle
  have hle2 : ((S (lowL (B nm))).toList != nm.toList) = false := by rw [bne, hle3]; rfl
  have HS := Lib.hid hs
  have HR := Lib.hid hr
  have HRL := Lib.hid hr.1
  have HBn := Lib.hid hb
  clear n2 hl hle hs hr hb
  have HB0 := Lib.hid (below_tokR w #[.int .i64 3, .string nm, .slice A 0 c, .bool false, .string ⟨#[]⟩])
  have HC := Lib.hid (Blk.new w 34 #[.int .i64 3, .string nm, .slice A 0 c, .bool false, .string ⟨#[]⟩] (0, 0))
  have k0 := HC.out.cell 0
  have k1 := HC.out.cell 1
  have k2 := HC.out.cell 2
  have k3 := HC.out.cell 3
  have k4 := HC.out.cell 4
  obtain ⟨wz, hwr⟩ : ∃ wz, wz = w.alloc (.cells #[.int .i64 3, .string nm, .slice A 0 c, .bool false, .string ⟨#[]⟩] 34) := ⟨_, rfl⟩
  have HWR := Lib.hid hwr
  have hks : ∀ W, Below wz.heap.size wz W → W.cell? ⟨w.heap.size, 0, none⟩ = some (.int .i64 3) ∧ W.cell? ⟨w.heap.size, 1, none⟩ = some (.string nm) ∧ W.cell? ⟨w.heap.size, 2, none⟩ = some (.slice A 0 c) ∧ W.cell? ⟨w.heap.size, 3, none⟩ = some (.bool false) ∧ W.cell? ⟨w.heap.size, 4, none⟩ = some (.string ⟨#[]⟩) := fun W hW => by
    have hc := HC.out
    rw [← hwr] at hc
    have hc2 := hc.keep hW
    exact ⟨hc2.cell 0, hc2.cell 1, hc2.cell 2, hc2.cell 3, hc2.cell 4⟩
  have KS := Lib.hid hks
  have HBw := HB0
  rw [← hwr] at HBw
  have HRw := Lib.hid (HR.out.keep HBw.out)
  clear hks hwr
  go_enter Try.func29, Try.ntmps29
  go_upto_region 6 with (fail)
  rw [← HWR.out]
  clear k0 k1 k2 k3 k4
  have j0 := fun m : After wz => (KS.out _ m.below).1
  have j1 := fun m : After wz => (KS.out _ m.below).2.1
  have j2 := fun m : After wz => (KS.out _ m.below).2.2.1
  have j3 := fun m : After wz => (KS.out _ m.below).2.2.2.1
  have j4 := fun m : After wz => (KS.out _ m.below).2.2.2.2
  refine wp_region_after (by kernel_rfl) (by kernel_rfl) ?_
  repeat (any_goals (go_big_quiet_step (first
    | (go_at_call 45; with_reducible exact call_same (HLt.out _))
    | (go_at_call 51; with_reducible exact call_after (HLw.out _)))))
  refine wpQuiet_nil ?_
  rintro w' ⟨m, rfl⟩
  clear j0 j1 j2 j3 j4
  obtain ⟨wa, hwa⟩ : ∃ wa, wa = m.W := ⟨_, rfl⟩
  have HBa : Hid (Below wz.heap.size wz wa) := hwa ▸ m.below
  rw [← hwa]
  clear hwa
  have i1 := (KS.out _ HBa.out).2.1
  go_wp2_with fail
  go_loop [3] (fun i => ∃ j : Nat, j ≤ nm.size ∧ i = .int .i64 j ∧ ((B nm).take j).all nmOk = true) (fun i => nm.size - (intOf i).toNat)
  case atStart => exact ⟨0, Nat.zero_le _, rfl, rfl⟩
  case round =>
    obtain ⟨j, hj, rfl, hall⟩ := hrel
    have HAl := Lib.hid hall
    clear hall
    by_cases hlt : j < nm.size
    · have d0 : decide ((j : Int) < (nm.size : Int)) = true := decide_eq_true (by omega)
      have s1 : IntKind.i64.wrap ((j : Int) + 1) = (j : Int) + 1 := IntWalk.i64_in _ (by have := HS.out; omega)
      have HSp := Lib.hid (fun w => rspace_rune nm[j] w)
      obtain ⟨sp, hsp⟩ : ∃ b, spaceB nm[j] = b := ⟨_, rfl⟩
      rw [hsp] at HSp
      have HQ := Lib.hid hsp
      clear hsp
      cases sp
      case true =>
        go_wp2_with (first | (go_at_call 54; with_reducible refine (HSp.out _).mono ?_; rintro e w' ⟨rfl, rfl⟩))
        go_ret
        refine ⟨ret_bool ?_, below_then HBw.out HBw.out.size HBa.out⟩
        rw [nmOk_bad nm al hlt (by unfold nmOk; rw [HQ.out]; rfl)]
      case false =>
        by_cases h47 : nm[j] = 47
        · have e1 : ((nm[j].toNat : Int) == 47) = true := by rw [h47]; rfl
          have HE := Lib.hid h47
          clear h47
          go_wp2_with (first | (go_at_call 54; with_reducible refine (HSp.out _).mono ?_; rintro e w' ⟨rfl, rfl⟩))
          go_ret
          refine ⟨ret_bool ?_, below_then HBw.out HBw.out.size HBa.out⟩
          rw [nmOk_bad nm al hlt (by unfold nmOk; rw [HQ.out, HE.out]; rfl)]
        · have e1 : ((nm[j].toNat : Int) == 47) = false := byte_ne (n := 47) (by decide) h47
          have HE1 := Lib.hid h47
          clear h47
          by_cases h62 : nm[j] = 62
          · have e2 : ((nm[j].toNat : Int) == 62) = true := by rw [h62]; rfl
            have HE := Lib.hid h62
            clear h62
            go_wp2_with (first | (go_at_call 54; with_reducible refine (HSp.out _).mono ?_; rintro e w' ⟨rfl, rfl⟩))
            go_ret
            refine ⟨ret_bool ?_, below_then HBw.out HBw.out.size HBa.out⟩
            rw [nmOk_bad nm al hlt (by unfold nmOk; rw [HQ.out, HE.out]; rfl)]
          · have e2 : ((nm[j].toNat : Int) == 62) = false := byte_ne (n := 62) (by decide) h62
            have HE2 := Lib.hid h62
            clear h62
            go_wp2_with (first | (go_at_call 54; with_reducible refine (HSp.out _).mono ?_; rintro e w' ⟨rfl, rfl⟩))
            exact ⟨⟨j + 1, by omega, by go_num, nm_step nm hlt HAl.out (by unfold nmOk; rw [HQ.out, show (nm[j] == 47) = false from beq_eq_false_iff_ne.2 HE1.out, show (nm[j] == 62) = false from beq_eq_false_iff_ne.2 HE2.out]; rfl)⟩, by simp [intOf]; omega⟩
    · have d0 : decide ((j : Int) < (nm.size : Int)) = false := decide_eq_false (by omega)
      have HAll : Hid ((B nm).all nmOk = true) := by
        have := HAl.out
        rw [List.take_of_length_le (by rw [← size_B]; omega)] at this
        exact this
      clear HAl
      go_wp2_with fail
      go_loopw [4] (fun i wr => ∃ j : Nat, j ≤ 0 ∧ i = .int .i64 j ∧ (List.range j).all (okAt al) = true ∧ Below wz.heap.size wz wr) (fun i _ => 0 - (intOf i).toNat)
      case atStart => exact ⟨0, Nat.zero_le _, rfl, rfl, HBa.out⟩
      case round =>
        obtain ⟨q, hq, rfl, hall, hbx⟩ := hrel
        have HAl := Lib.hid hall
        have HBx := Lib.hid hbx
        clear hall hbx
        have i2 := (KS.out _ HBx.out).2.2.1
        obtain rfl : q = 0 := by omega
        go_wp2_with fail
        go_ret
        refine ⟨ret_bool ?_, below_then HBw.out HBw.out.size HBx.out⟩
        unfold passR
        rw [HAll.out, show al.length = 0 from HRL.out.symm]
        rfl
end Go.Proofs.Ytjghkiphfpeocaa
