/- arbourlaw18.bounds, arbourlaw18.scope: what they answer: the same as the program's. -/
import Derived.Test.YtoehpladbdefkaaOpenSame
import Derived.Test.YtoehpladbdefkaaOpenBoth
namespace Go.Proofs.Ytoehpladbdefkaa
open Go.RowKit

set_option maxHeartbeats 2000000 in
set_option maxRecDepth 100000 in
theorem bounds18 (w : World) (x : It) (kind : Int) (hk : 1 ≤ kind ∧ kind ≤ 4) :
    Calls Try.prog 72 #[val_item x, .int .i64 kind] w fun e w' => e = .returned (.bool (openB kind x.ns x.name)) ∧ Below w.heap.size w w' := by
  have hb0 : Below w.heap.size w (w.alloc (.cells (enc_item x).toArray 50)) := (Below.refl _ _).alloc (Nat.le_refl _) _
  have HX := Lib.hid (Blk.new w 50 (enc_item x).toArray (0, 0))
  obtain ⟨w0, hw0⟩ : ∃ w0, w0 = w.alloc (.cells (enc_item x).toArray 50) := ⟨_, rfl⟩
  rw [← hw0] at hb0 HX
  obtain ⟨hvc, _⟩ := var_item (x := x) HX.out
  have c0 := hvc 0 _ rfl; have c1 := hvc 1 _ rfl; have c2 := hvc 2 _ rfl; have c3 := hvc 3 _ rfl
  have HB0 := Lib.hid hb0
  have HRB := Lib.hid (fun W => ref_bound W x.ns x.name)
  have HIS := Lib.hid (fun (W : World) (names : List ByteArray) (n : Nat) (hn : n = names.length) (hl : n ≤ 100) => show Calls Try.prog 51 #[val_item x, .slice (some ⟨W.heap.size, 0, none⟩) n n] (W.alloc (.cells (strs names).toArray 9)) fun e w' => e = .returned (.bool (isN names x)) ∧ Below W.heap.size W w' from by
    subst hn
    refine (is18 _ x _ _ names (rd_lit W 9 names) (by omega)).mono ?_
    rintro e w' ⟨he, hb⟩
    exact ⟨he, below_both ((Below.refl _ _).alloc (Nat.le_refl _) _) hb⟩)
  have hob : Hid (openB kind x.ns x.name = if kind = 4 then isN tablesN x else if kind = 2 then isN listsN x || boundB x.ns x.name else if kind = 3 then isN buttonsN x || boundB x.ns x.name else boundB x.ns x.name) := rfl
  clear hvc hb0
  have h4 : kind = 1 ∨ kind = 2 ∨ kind = 3 ∨ kind = 4 := by omega
  unfold val_item at HIS ⊢
  generalize boundB x.ns x.name = bb at *
  go_enter Try.func72, Try.ntmps72
  go_upto_region 1 with fail
  rw [show w.alloc (.cells #[.int .i64 x.h, .int .i64 x.ns, .string x.name, .slice x.a x.n x.c] 50) = w0 from hw0.symm]
  clear hw0
  rcases h4 with rfl | rfl | rfl | rfl
  · go_wp2_with fail
    refine (HRB.out _).mono ?_
    rintro e w1 ⟨rfl, b1⟩
    go_wp2_with fail
    go_ret
    exact ⟨congrArg (fun b => Ending.returned (.bool b)) (by rw [hob.out]; simp), below_then HB0.out HB0.out.size b1⟩
  · cases bb
    · go_wp2_with fail
      refine (HRB.out _).mono ?_
      rintro e w1 ⟨rfl, b1⟩
      obtain ⟨hvc, _⟩ := var_item (x := x) (HX.out.keep b1)
      have c0 := hvc 0 _ rfl; have c1 := hvc 1 _ rfl; have c2 := hvc 2 _ rfl; have c3 := hvc 3 _ rfl
      have HB1 := Lib.hid (below_then HB0.out HB0.out.size b1)
      clear b1 hvc
      go_wp2_with fail
      refine (HIS.out _ listsN 2 rfl (by omega)).mono ?_
      rintro e w2 ⟨rfl, b2⟩
      go_wp2_with fail
      go_ret
      exact ⟨congrArg (fun b => Ending.returned (.bool b)) (by rw [hob.out]; simp), below_then HB1.out HB1.out.size b2⟩
    · go_wp2_with fail
      refine (HRB.out _).mono ?_
      rintro e w1 ⟨rfl, b1⟩
      go_wp2_with fail
      go_ret
      exact ⟨congrArg (fun b => Ending.returned (.bool b)) (by rw [hob.out]; simp), below_then HB0.out HB0.out.size b1⟩
  · cases bb
    · go_wp2_with fail
      refine (HRB.out _).mono ?_
      rintro e w1 ⟨rfl, b1⟩
      obtain ⟨hvc, _⟩ := var_item (x := x) (HX.out.keep b1)
      have c0 := hvc 0 _ rfl; have c1 := hvc 1 _ rfl; have c2 := hvc 2 _ rfl; have c3 := hvc 3 _ rfl
      have HB1 := Lib.hid (below_then HB0.out HB0.out.size b1)
      clear b1 hvc
      go_wp2_with fail
      refine (HIS.out _ buttonsN 1 rfl (by omega)).mono ?_
      rintro e w2 ⟨rfl, b2⟩
      go_wp2_with fail
      go_ret
      exact ⟨congrArg (fun b => Ending.returned (.bool b)) (by rw [hob.out]; simp), below_then HB1.out HB1.out.size b2⟩
    · go_wp2_with fail
      refine (HRB.out _).mono ?_
      rintro e w1 ⟨rfl, b1⟩
      go_wp2_with fail
      go_ret
      exact ⟨congrArg (fun b => Ending.returned (.bool b)) (by rw [hob.out]; simp), below_then HB0.out HB0.out.size b1⟩
  · go_wp2_with fail
    refine (HIS.out _ tablesN 3 rfl (by omega)).mono ?_
    rintro e w2 ⟨rfl, b2⟩
    go_wp2_with fail
    go_ret
    exact ⟨congrArg (fun b => Ending.returned (.bool b)) (by rw [hob.out]; simp), below_then HB0.out HB0.out.size b2⟩

/-- A slice that reads as these elements. -/
def RdI (w : World) (A : Option Addr) (n : Nat) (l : List It) : Prop := n = l.length ∧ Rd w A n 4 (l.flatMap enc_item)
theorem RdI.keep {w w' : World} {A : Option Addr} {n : Nat} {l : List It} (h : RdI w A n l) (hb : Below w.heap.size w w') : RdI w' A n l := ⟨h.1, h.2.keep hb⟩
theorem rdI_at {w : World} {A : Option Addr} {l : List It} {n j : Nat} {x : It} (h : RdI w A n l) (hx : l[j]? = some x) :
    ∃ ad, A = some ad ∧ w.cell? (ad.add (j * 4)) = some (.int .i64 x.h) ∧ w.cell? { ad.add (j * 4) with off := (ad.add (j * 4)).off + 1, spot := none } = some (.int .i64 x.ns) ∧ w.cell? { ad.add (j * 4) with off := (ad.add (j * 4)).off + 2, spot := none } = some (.string x.name) ∧
      w.cell? { ad.add (j * 4) with off := (ad.add (j * 4)).off + 3, spot := none } = some (.slice x.a x.n x.c) := by
  have hj := (List.getElem?_eq_some_iff.1 hx).1
  obtain ⟨ad, e, hc⟩ := h.2.2.2 (by rw [h.1]; omega)
  refine ⟨ad, e, ?_⟩
  have k0 := hc (j * 4 + 0) _ (row_at encOk_item l j 0 x _ hx rfl)
  have k1 := hc (j * 4 + 1) _ (row_at encOk_item l j 1 x _ hx rfl)
  have k2 := hc (j * 4 + 2) _ (row_at encOk_item l j 2 x _ hx rfl)
  have k3 := hc (j * 4 + 3) _ (row_at encOk_item l j 3 x _ hx rfl)
  simp only [Nat.add_zero] at k0
  rw [← Go.Deep.add_add] at k1 k2 k3
  exact ⟨k0, (Addr.add_succ' (ad.add (j * 4)) 0) ▸ k1, (Addr.add_succ' (ad.add (j * 4)) 1) ▸ k2, (Addr.add_succ' (ad.add (j * 4)) 2) ▸ k3⟩

set_option maxHeartbeats 2000000 in
set_option maxRecDepth 100000 in
theorem scope18 (w : World) (A2 : Option Addr) (n c2 : Nat) (l : List It) (kind : Int) (A : Option Addr) (c : Nat) (names : List ByteArray) (h : RdI w A2 n l) (hr : Rd w A names.length 1 (strs names)) (hb : names.length ≤ 9223372036854775807) (hn : n ≤ 9223372036854775807) :
    Calls Try.prog 33 #[.slice A2 n c2, .int .i64 kind, .slice A names.length c] w fun e w' => e = .returned (.bool (scopeB (l.map key_item) kind names)) ∧ Below w.heap.size w w' := by
  have HL := Lib.hid h
  have HLN := Lib.hid h.1
  have HR := Lib.hid hr
  clear h hr
  by_cases hk : kind < 1 ∨ kind > 4
  · have e : scopeB (l.map key_item) kind names = false := by unfold scopeB; rw [if_pos hk]
    rw [e]
    by_cases h1 : kind < 1
    · have d1 : decide (kind < 1) = true := decide_eq_true h1
      go_enter Try.func33, Try.ntmps33
      go_wp2_with fail
      go_ret
      exact ⟨rfl, Below.refl _ _⟩
    · have d1 : decide (kind < 1) = false := decide_eq_false h1
      have d2 : decide (kind > 4) = true := decide_eq_true (by omega)
      go_enter Try.func33, Try.ntmps33
      go_wp2_with fail
      go_ret
      exact ⟨rfl, Below.refl _ _⟩
  · have d1 : decide (kind < 1) = false := decide_eq_false (by omega)
    have d2 : decide (kind > 4) = false := decide_eq_false (by omega)
    have hsc : Hid (scopeB (l.map key_item) kind names = scanB kind names ((l.map key_item).reverse)) := by show _ = _; unfold scopeB; rw [if_neg hk]
    have hk14 : 1 ≤ kind ∧ kind ≤ 4 := by omega
    have s1 : IntKind.i64.wrap ((n : Int) - 1) = (n : Int) - 1 := IntWalk.i64_in _ (by omega)
    go_enter Try.func33, Try.ntmps33
    go_wp2_with fail
    go_loopw [7] (fun i wr => ∃ j : Nat, j ≤ n ∧ i = .int .i64 ((j : Int) - 1) ∧ Below w.heap.size w wr ∧ scanB kind names ((l.map key_item).reverse) = scanB kind names (((l.take j).map key_item).reverse)) (fun i _ => (intOf i + 1).toNat)
    case atStart => exact ⟨n, Nat.le_refl _, rfl, Below.refl _ _, by rw [List.take_of_length_le (by have := HLN.out; omega)]⟩
    case round =>
      obtain ⟨j, hj, rfl, hbr, ht⟩ := hrel
      have HT := Lib.hid ht
      have HB := Lib.hid hbr
      clear ht hbr
      cases j with
      | zero =>
        go_wp2_with fail
        go_ret
        have e2 : scopeB (l.map key_item) kind names = false := by rw [hsc, HT.out]; rfl
        exact ⟨congrArg (fun b => Ending.returned (.bool b)) e2.symm, HB.out⟩
      | succ m =>
        have e1 : (((m + 1 : Nat) : Int) - 1) = (m : Int) := by omega
        rw [e1]
        obtain ⟨y, hy⟩ : ∃ y, l[m]? = some y := ⟨_, List.getElem?_eq_getElem (by have := HLN.out; omega)⟩
        have hstep : scanB kind names (((l.take (m + 1)).map key_item).reverse) = scanB kind names (key_item y :: ((l.take m).map key_item).reverse) := by
          rw [List.take_add_one, hy]; simp
        have s2 : IntKind.i64.wrap ((m : Int) - 1) = (m : Int) - 1 := IntWalk.i64_in _ (by omega)
        have HST := Lib.hid (HT.out.trans hstep)
        obtain ⟨ad, rfl, k0, k1, k2, k3⟩ := rdI_at (HL.out.keep HB.out) hy
        have HI := Lib.hid (is18 wr y A c names (HR.out.keep HB.out) hb)
        have HY := Lib.hid hy
        have d6 : (0 : Int) ≤ (m : Int) := by omega
        have d7 : (m : Int) < (n : Int) := by omega
        clear hstep hy
        go_wp2_with fail
        refine HI.out.mono ?_
        rintro e w4 ⟨rfl, b4⟩
        obtain ⟨ad', e', m0, m1, m2, m3⟩ := rdI_at (HL.out.keep (below_both HB.out b4)) HY.out
        cases e'
        have HB4 := Lib.hid (below_both HB.out b4)
        have HBD := Lib.hid (bounds18 w4 y kind hk14)
        clear b4 k0 k1 k2 k3
        obtain ⟨bq, hq⟩ : ∃ b, isN names y = b := ⟨_, rfl⟩
        have HQ : Hid ((y.ns == 1 && inB y.name names) = bq) := hq
        rw [hq]
        clear hq
        cases bq
        · go_wp2_with fail
          refine HBD.out.mono ?_
          rintro e w5 ⟨rfl, b5⟩
          have HB5 := Lib.hid (below_both HB4.out b5)
          clear b5
          cases hq2 : openB kind y.ns y.name
          · have HQ2 := Lib.hid hq2
            go_wp2_with fail
            exact ⟨⟨m, by omega, rfl, HB5.out, by rw [HST.out]; exact scanB_on HQ.out HQ2.out⟩, by simp [intOf]⟩
          · have HQ2 := Lib.hid hq2
            go_wp2_with fail
            go_ret
            have e2 : scopeB (l.map key_item) kind names = false := by rw [hsc, HST.out]; exact scanB_end HQ.out HQ2.out
            exact ⟨congrArg (fun b => Ending.returned (.bool b)) e2.symm, HB5.out⟩
        · go_wp2_with fail
          go_ret
          have e2 : scopeB (l.map key_item) kind names = true := by rw [hsc, HST.out]; exact scanB_hit HQ.out
          exact ⟨congrArg (fun b => Ending.returned (.bool b)) e2.symm, HB4.out⟩
end Go.Proofs.Ytoehpladbdefkaa
