/- slices.Equal of attributes, attrs.Same, token.Same and the reference's. -/
import Derived.Test.YtjghkiphfpeocaaAttrs
import Derived.Test.YtjghkiphfpeocaaTok
namespace Go.Proofs.Ytjghkiphfpeocaa
open Go.RowKit

set_option maxHeartbeats 1000000 in
theorem equal_at (w : World) (A1 A2 : Option Addr) (n1 n2 c1 c2 : Nat) (l1 l2 : List At) (h1 : RdA w A1 n1 l1) (h2 : RdA w A2 n2 l2) (hb1 : n1 ≤ 9223372036854775807) :
    Calls Try.prog 53 #[.slice A1 n1 c1, .slice A2 n2 c2] w fun e w' => e = .returned (.bool (decide (l1 = l2))) ∧ Below w.heap.size w w' := by
  by_cases hlen : n1 = n2
  · subst hlen
    have H1 := Lib.hid h1
    have H2 := Lib.hid h2
    have HL1 := Lib.hid h1.1
    have HL2 := Lib.hid h2.1
    clear h1 h2
    go_enter Try.func53, Try.ntmps53
    go_wp2_with fail
    go_loopw [13] (fun i wr => ∃ j : Nat, j ≤ n1 ∧ i = .int .i64 j ∧ Below w.heap.size w wr ∧ l1.take j = l2.take j) (fun i _ => n1 - (intOf i).toNat)
    case atStart => exact ⟨0, Nat.zero_le _, rfl, Below.refl _ _, rfl⟩
    case round =>
      obtain ⟨j, hj, rfl, hb, ht⟩ := hrel
      have HB := Lib.hid hb
      have HT := Lib.hid ht
      clear hb ht
      by_cases hlt : j < n1
      · obtain ⟨x, hx⟩ : ∃ x, l1[j]? = some x := ⟨_, List.getElem?_eq_getElem (by have := HL1.out; omega)⟩
        obtain ⟨y, hy⟩ : ∃ y, l2[j]? = some y := ⟨_, List.getElem?_eq_getElem (by have := HL2.out; omega)⟩
        obtain ⟨a1, rfl, k1, k2⟩ := rdA_at (H1.out.keep HB.out) hx
        obtain ⟨a2, rfl, m1, m2⟩ := rdA_at (H2.out.keep HB.out) hy
        have s1 : IntKind.i64.wrap ((j : Int) + 1) = (j : Int) + 1 := IntWalk.i64_in _ (by omega)
        have hX := Lib.hid hx
        have hY := Lib.hid hy
        clear hx hy
        have d0 : decide ((j : Int) < (n1 : Int)) = true := decide_eq_true (by omega)
        obtain ⟨bq, hbq⟩ : ∃ b, ((x.name.toList == y.name.toList) && (x.val.toList == y.val.toList)) = b := ⟨_, rfl⟩
        cases bq
        · have HQ := Lib.hid hbq
          have hnq := neq_at x.name x.val y.name y.val
          rw [hbq] at hnq
          clear hbq
          go_wp2_with fail
          go_quiet (fail)
          go_wp2_with fail
          go_ret
          have hne : decide (l1 = l2) = false := decide_eq_false (fun e => by
            have h1 := hX.out
            rw [e, hY.out] at h1
            obtain rfl := Option.some.inj h1
            have := HQ.out
            simp at this)
          exact ⟨congrArg (fun b => Ending.returned (.bool b)) hne.symm, below_drewN HB.out _⟩
        · have HQ := Lib.hid hbq
          have hnq := neq_at x.name x.val y.name y.val
          rw [hbq] at hnq
          clear hbq
          go_wp2_with fail
          go_quiet (fail)
          go_wp2_with fail
          refine ⟨⟨j + 1, by omega, by go_num, below_drewN HB.out _, same_step HT.out hX.out hY.out ?_⟩, by simp [intOf]; omega⟩
          have hq := HQ.out
          rw [Bool.and_eq_true] at hq
          cases x; cases y
          rw [At.mk.injEq]
          exact ⟨toList_inj hq.1, toList_inj hq.2⟩
      · have d0 : decide ((j : Int) < (n1 : Int)) = false := decide_eq_false (by omega)
        go_wp2_with fail
        go_ret
        have hq : decide (l1 = l2) = true := decide_eq_true (same_end HT.out (by have := HL1.out; omega) (by have := HL1.out; have := HL2.out; omega))
        exact ⟨congrArg (fun b => Ending.returned (.bool b)) hq.symm, HB.out⟩
  · have hne : l1 ≠ l2 := fun e => hlen (by rw [h1.1, h2.1, e])
    have hni : ¬ ((n1 : Int) = (n2 : Int)) := by omega
    rw [decide_eq_false hne]
    clear hlen h1 h2
    go_enter Try.func53, Try.ntmps53
    go_wp2_with fail
    go_ret
    exact ⟨rfl, Below.refl _ _⟩

set_option maxHeartbeats 1000000 in
theorem asame_at (w : World) (A1 A2 : Option Addr) (n1 n2 c1 c2 : Nat) (l1 l2 : List At) (h1 : RdA w A1 n1 l1) (h2 : RdA w A2 n2 l2) (hb1 : n1 ≤ 9223372036854775807) :
    Calls Try.prog 28 #[.slice A1 n1 c1, .slice A2 n2 c2] w fun e w' => e = .returned (.bool (decide (l1 = l2))) ∧ Below w.heap.size w w' := by
  have H := Lib.hid (equal_at w A1 A2 n1 n2 c1 c2 l1 l2 h1 h2 hb1)
  clear h1 h2
  go_enter Try.func28, Try.ntmps28
  go_wp2_with fail
  refine H.out.mono ?_
  rintro e w' ⟨rfl, hb⟩
  go_wp2_with fail
  go_ret
  exact ⟨rfl, hb⟩

def sameT (a b : Tk) : Bool := (a.kd == b.kd) && (a.nm.toList == b.nm.toList) && decide (a.al = b.al) && (a.sf == b.sf) && (a.tx.toList == b.tx.toList)
theorem sameT_self (a : Tk) : sameT a a = true := by
  unfold sameT
  simp
theorem sameT_comm (a b : Tk) : sameT a b = sameT b a := by
  unfold sameT
  rw [Bool.eq_iff_iff]
  simp only [Bool.and_eq_true, beq_iff_eq, decide_eq_true_eq]
  exact ⟨fun ⟨⟨⟨⟨h1, h2⟩, h3⟩, h4⟩, h5⟩ => ⟨⟨⟨⟨h1.symm, h2.symm⟩, h3.symm⟩, h4.symm⟩, h5.symm⟩, fun ⟨⟨⟨⟨h1, h2⟩, h3⟩, h4⟩, h5⟩ => ⟨⟨⟨⟨h1.symm, h2.symm⟩, h3.symm⟩, h4.symm⟩, h5.symm⟩⟩
set_option maxHeartbeats 4000000 in
theorem tsame_any (a b : Tk) (A1 A2 : Option Addr) (c1 c2 : Nat) (w : World) (h1 : RdA w A1 a.al.length a.al) (h2 : RdA w A2 b.al.length b.al) (hl : a.al.length ≤ 9223372036854775807) :
    Calls Try.prog 20 #[tkG a A1 c1, tkG b A2 c2] w fun e w' => e = .returned (.bool (sameT a b)) ∧ Below w.heap.size w w' := by
  obtain ⟨kd, nm, al, sf, tx⟩ := a
  obtain ⟨kd2, nm2, al2, sf2, tx2⟩ := b
  unfold tkG sameT
  simp only at *
  have hb0 := (below_tokG w #[.int .i64 kd, .string nm, .slice A1 al.length c1, .bool sf, .string tx]).alloc (by simp) (.cells #[.int .i64 kd2, .string nm2, .slice A2 al2.length c2, .bool sf2, .string tx2] 34)
  have hA := (Blk.new w 34 #[.int .i64 kd, .string nm, .slice A1 al.length c1, .bool sf, .string tx] (0, 0)).alloc (.cells #[.int .i64 kd2, .string nm2, .slice A2 al2.length c2, .bool sf2, .string tx2] 34)
  have hB := Blk.new (w.alloc (.cells #[.int .i64 kd, .string nm, .slice A1 al.length c1, .bool sf, .string tx] 34)) 34 #[.int .i64 kd2, .string nm2, .slice A2 al2.length c2, .bool sf2, .string tx2] (0, 0)
  rw [show (w.alloc (.cells #[.int .i64 kd, .string nm, .slice A1 al.length c1, .bool sf, .string tx] 34)).heap.size = w.heap.size + 1 by simp] at hB
  have HS := Lib.hid (asame_at _ A1 A2 al.length al2.length c1 c2 al al2 (h1.keep hb0) (h2.keep hb0) hl)
  have HB0 := Lib.hid hb0
  have HA := Lib.hid hA
  have HBB := Lib.hid hB
  have a0 := HA.out.cell 0
  have a1 := HA.out.cell 1
  have a2 := HA.out.cell 2
  have b0 := HBB.out.cell 0
  have b1 := HBB.out.cell 1
  have b2 := HBB.out.cell 2
  clear h1 h2 hb0 hA hB
  obtain ⟨e1, he1⟩ : ∃ e, (kd == kd2) = e := ⟨_, rfl⟩
  obtain ⟨e2, he2⟩ : ∃ e, (nm.toList == nm2.toList) = e := ⟨_, rfl⟩
  rw [he1, he2]
  cases e1
  · go_enter Try.func20, Try.ntmps20
    go_wp2_with fail
    go_ret
    exact ⟨rfl, HB0.out⟩
  · cases e2
    · go_enter Try.func20, Try.ntmps20
      go_wp2_with fail
      go_ret
      exact ⟨rfl, HB0.out⟩
    · obtain ⟨e3, he3⟩ : ∃ e, decide (al = al2) = e := ⟨_, rfl⟩
      rw [he3] at HS ⊢
      obtain ⟨e4, he4⟩ : ∃ e, (sf == sf2) = e := ⟨_, rfl⟩
      obtain ⟨e5, he5⟩ : ∃ e, (tx.toList == tx2.toList) = e := ⟨_, rfl⟩
      rw [he4, he5]
      clear he3
      cases e3 <;> cases e4 <;> cases e5
      all_goals
        go_enter Try.func20, Try.ntmps20
        go_wp2_with fail
        refine HS.out.mono ?_
        rintro e w1 ⟨rfl, hbw⟩
        have HBW := Lib.hid (below_then HB0.out HB0.out.size hbw)
        have p3 := (HA.out.keep hbw).cell 3
        have p4 := (HA.out.keep hbw).cell 4
        have q3 := (HBB.out.keep hbw).cell 3
        have q4 := (HBB.out.keep hbw).cell 4
        clear hbw a0 a1 a2 b0 b1 b2
        go_wp2_with fail
        go_ret
        exact ⟨rfl, HBW.out⟩
set_option maxHeartbeats 4000000 in
theorem rtsame_any (a b : Tk) (A1 A2 : Option Addr) (c1 c2 : Nat) (w : World) (h1 : RdA w A1 a.al.length a.al) (h2 : RdA w A2 b.al.length b.al) (hl : a.al.length ≤ 9223372036854775807) :
    Calls Try.prog 31 #[tkG a A1 c1, tkG b A2 c2] w fun e w' => e = .returned (.bool (sameT a b)) ∧ Below w.heap.size w w' := by
  obtain ⟨kd, nm, al, sf, tx⟩ := a
  obtain ⟨kd2, nm2, al2, sf2, tx2⟩ := b
  unfold tkG sameT
  simp only at *
  have hb0 := (below_tokG w #[.int .i64 kd, .string nm, .slice A1 al.length c1, .bool sf, .string tx]).alloc (by simp) (.cells #[.int .i64 kd2, .string nm2, .slice A2 al2.length c2, .bool sf2, .string tx2] 34)
  have hA := (Blk.new w 34 #[.int .i64 kd, .string nm, .slice A1 al.length c1, .bool sf, .string tx] (0, 0)).alloc (.cells #[.int .i64 kd2, .string nm2, .slice A2 al2.length c2, .bool sf2, .string tx2] 34)
  have hB := Blk.new (w.alloc (.cells #[.int .i64 kd, .string nm, .slice A1 al.length c1, .bool sf, .string tx] 34)) 34 #[.int .i64 kd2, .string nm2, .slice A2 al2.length c2, .bool sf2, .string tx2] (0, 0)
  rw [show (w.alloc (.cells #[.int .i64 kd, .string nm, .slice A1 al.length c1, .bool sf, .string tx] 34)).heap.size = w.heap.size + 1 by simp] at hB
  have HS := Lib.hid (same7 _ A1 A2 al.length al2.length c1 c2 al al2 (h1.keep hb0) (h2.keep hb0) hl)
  have HB0 := Lib.hid hb0
  have HA := Lib.hid hA
  have HBB := Lib.hid hB
  have a0 := HA.out.cell 0
  have a1 := HA.out.cell 1
  have a2 := HA.out.cell 2
  have b0 := HBB.out.cell 0
  have b1 := HBB.out.cell 1
  have b2 := HBB.out.cell 2
  clear h1 h2 hb0 hA hB
  obtain ⟨e1, he1⟩ : ∃ e, (kd == kd2) = e := ⟨_, rfl⟩
  obtain ⟨e2, he2⟩ : ∃ e, (nm.toList == nm2.toList) = e := ⟨_, rfl⟩
  rw [he1, he2]
  cases e1
  · go_enter Try.func31, Try.ntmps31
    go_wp2_with fail
    go_ret
    exact ⟨rfl, HB0.out⟩
  · cases e2
    · go_enter Try.func31, Try.ntmps31
      go_wp2_with fail
      go_ret
      exact ⟨rfl, HB0.out⟩
    · obtain ⟨e3, he3⟩ : ∃ e, decide (al = al2) = e := ⟨_, rfl⟩
      rw [he3] at HS ⊢
      obtain ⟨e4, he4⟩ : ∃ e, (sf == sf2) = e := ⟨_, rfl⟩
      obtain ⟨e5, he5⟩ : ∃ e, (tx.toList == tx2.toList) = e := ⟨_, rfl⟩
      rw [he4, he5]
      clear he3
      cases e3 <;> cases e4 <;> cases e5
      all_goals
        go_enter Try.func31, Try.ntmps31
        go_wp2_with fail
        refine HS.out.mono ?_
        rintro e w1 ⟨rfl, hbw⟩
        have HBW := Lib.hid (below_then HB0.out HB0.out.size hbw)
        have p3 := (HA.out.keep hbw).cell 3
        have p4 := (HA.out.keep hbw).cell 4
        have q3 := (HBB.out.keep hbw).cell 3
        have q4 := (HBB.out.keep hbw).cell 4
        clear hbw a0 a1 a2 b0 b1 b2
        go_wp2_with fail
        go_ret
        exact ⟨rfl, HBW.out⟩
end Go.Proofs.Ytjghkiphfpeocaa
