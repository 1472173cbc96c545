/- Joined texts: LexRfE, Attrs. -/
import Derived.Test.YtdjeajbinpgpiaaGreatJLexerTells18
import Derived.Test.YtdjeajbinpgpiaaGreatJLexerTells19
import Derived.Test.YtdjeajbinpgpiaaGreatJLexerTells2
namespace Go.Proofs.YtdjeajbinpgpiaaGreat
open Go.RowKit Go.BigFrame

theorem ends_byte (c : UInt8) : hasB [9, 10, 12, 13, 32, 47, 62] c = (spaceB c || c == 47 || c == 62) := by
  have key : ∀ n : Nat, n < 256 → hasB [9, 10, 12, 13, 32, 47, 62] (UInt8.ofNat n) = (spaceB (UInt8.ofNat n) || UInt8.ofNat n == 47 || UInt8.ofNat n == 62) := by decide +kernel
  have := key c.toNat c.toNat_lt
  rwa [UInt8.ofNat_toNat] at this
set_option maxHeartbeats 4000000 in
theorem rfends_any (p : Nat) (x : ByteArray) (s : Lx) (k : Nat) (w : World) (h : RefAt w p x s) (hxs : x.size ≤ 65536) (hss : s.st.size ≤ 65534) (hk : k ≤ x.size) :
    Calls Tryz.prog 44 #[.pointer (some ⟨p, 0, none⟩), .int .i64 (k : Int)] w fun e w' => e = .returned (.bool (endsX (B x) (B s.st) k)) ∧ Below w.heap.size w w' := by
  obtain ⟨a, mo, fo, st⟩ := s
  simp only at *
  have hend : endsX (B x) (B st) k = (decide (B st ≠ []) && (foldL (B x) (60 :: 47 :: B st) k && ((B x)[k + 2 + st.size]?).any (fun c => hasB [9, 10, 12, 13, 32, 47, 62] c))) := by unfold endsX; rw [size_B st]
  have HE := Lib.hid hend
  by_cases hst : st = ⟨#[]⟩
  · subst hst
    have e1 : ((⟨#[]⟩ : ByteArray).toList == []) = true := by decide +kernel
    have hr : endsX (B x) (B ⟨#[]⟩) k = false := by rw [hend]; rfl
    rw [hr]
    obtain ⟨k0, k1, k2, k3, k4, f1, f2, f3, f4⟩ := h.cells
    have cc3 : ∀ n : After w, n.W.cell? ⟨p, 3, none⟩ = some (.string ⟨#[]⟩) := fun n => (h.keep n.below).cells.2.2.2.1
    clear h hend hr
    go_enter Tryz.func44, Tryz.ntmps44
    go_wp2_with fail
    refine wp_region_after (by kernel_rfl) (by kernel_rfl) ?_
    repeat (any_goals (go_big_quiet_step (fail)))
    refine wpQuiet_nil ?_
    rintro w' ⟨n, rfl⟩
    go_wp2_with fail
    go_ret
    exact ⟨rfl, n.below⟩
  · have hb0 : B st ≠ [] := fun e => hst (B_inj e)
    have e1 : (st.toList == []) = false := by rw [toList_B, beq_eq_false_iff_ne]; exact hb0
    rw [decide_eq_true hb0, Bool.true_and] at hend
    have q1 : (⟨#[60, 47]⟩ : ByteArray).size + st.size ≤ 9223372036854775807 := by show 2 + st.size ≤ _; omega
    have hBs : B ((⟨#[60, 47]⟩ : ByteArray) ++ st) = 60 :: 47 :: B st := by
      unfold B
      rw [ByteArray.data_append, Array.toList_append]; rfl
    have HF := Lib.hid (fun w => rfold_any x ((⟨#[60, 47]⟩ : ByteArray) ++ st) (k : Int) w (by omega) (by rw [ByteArray.size_append]; show 2 + st.size ≤ _; omega))
    rw [hBs, clampN_nat k x.size hk] at HF
    have cc0 : ∀ n : After w, n.W.cell? ⟨p, 0, none⟩ = some (.string x) := fun n => (h.keep n.below).cells.1
    have cc3 : ∀ n : After w, n.W.cell? ⟨p, 3, none⟩ = some (.string st) := fun n => (h.keep n.below).cells.2.2.2.1
    have HH := Lib.hid h
    have HEND := Lib.hid hend
    clear h hend hb0 hBs HE
    obtain ⟨fb, hfb⟩ : ∃ b, foldL (B x) (60 :: 47 :: B st) k = b := ⟨_, rfl⟩
    rw [hfb] at HF HEND
    clear hfb
    cases fb
    · go_enter Tryz.func44, Tryz.ntmps44
      go_wp2_with fail
      refine wp_region_after (by kernel_rfl) (by kernel_rfl) ?_
      repeat (any_goals (go_big_quiet_step ((go_at_call 52; with_reducible exact call_after (HF.out _)))))
      refine wpQuiet_nil ?_
      rintro w' ⟨n, rfl⟩
      go_wp2_with fail
      go_ret
      exact ⟨congrArg (fun b => Ending.returned (.bool b)) (by rw [HEND.out]; rfl), n.below⟩
    · go_enter Tryz.func44, Tryz.ntmps44
      go_wp2_with fail
      refine wp_region_after (by kernel_rfl) (by kernel_rfl) ?_
      repeat (any_goals (go_big_quiet_step ((go_at_call 52; with_reducible exact call_after (HF.out _)))))
      refine wpQuiet_nil ?_
      rintro w' ⟨n, rfl⟩
      have c0 := cc0 n
      have c3 := cc3 n
      have w1 : IntKind.i64.wrap ((k : Int) + 2) = (k : Int) + 2 := IntWalk.i64_in _ (by omega)
      have w2 : IntKind.i64.wrap ((k : Int) + 2 + (st.size : Int)) = (k : Int) + 2 + (st.size : Int) := IntWalk.i64_in _ (by omega)
      have HNB := Lib.hid n.below
      clear cc0 cc3
      by_cases hlt : k + 2 + st.size < x.size
      · have d1 : decide ((k : Int) + 2 + (st.size : Int) < (x.size : Int)) = true := decide_eq_true (by omega)
        have i0 : (0 : Int) ≤ (k : Int) + 2 + (st.size : Int) := by omega
        have i1 : (k : Int) + 2 + (st.size : Int) < (x.size : Int) := by omega
        have i2 : ((k : Int) + 2 + (st.size : Int)).toNat = k + 2 + st.size := by omega
        have hat : (B x)[k + 2 + st.size]? = some (x[k + 2 + st.size]'hlt) := B_at x _ hlt
        have hres : ((B x)[k + 2 + st.size]?).any (fun c => hasB [9, 10, 12, 13, 32, 47, 62] c) = (spaceB (x[k + 2 + st.size]'hlt) || (x[k + 2 + st.size]'hlt) == 47 || (x[k + 2 + st.size]'hlt) == 62) := by
          rw [hat]; exact ends_byte _
        have HRES := Lib.hid hres
        have HSP := Lib.hid (fun w => rspace_rune (x[k + 2 + st.size]'hlt) w)
        clear hat hres
        have e47 : ∀ c : UInt8, ((c.toNat : Int) == 47) = (c == 47) := fun c => by
          by_cases h : c = 47
          · rw [h]; rfl
          · rw [beq_eq_false_iff_ne.2 h, beq_eq_false_iff_ne]
            exact fun e => h (UInt8.toNat_inj.1 (by show _ = 47; omega))
        have e62 : ∀ c : UInt8, ((c.toNat : Int) == 62) = (c == 62) := fun c => by
          by_cases h : c = 62
          · rw [h]; rfl
          · rw [beq_eq_false_iff_ne.2 h, beq_eq_false_iff_ne]
            exact fun e => h (UInt8.toNat_inj.1 (by show _ = 62; omega))
        have E47 := e47 (x[k + 2 + st.size]'hlt)
        have E62 := e62 (x[k + 2 + st.size]'hlt)
        clear e47 e62
        obtain ⟨bs, hbs⟩ : ∃ b, spaceB (x[k + 2 + st.size]'hlt) = b := ⟨_, rfl⟩
        obtain ⟨b47, hb47⟩ : ∃ b, ((x[k + 2 + st.size]'hlt) == 47) = b := ⟨_, rfl⟩
        obtain ⟨b62, hb62⟩ : ∃ b, ((x[k + 2 + st.size]'hlt) == 62) = b := ⟨_, rfl⟩
        rw [hbs] at HSP HRES
        rw [hb47] at HRES E47
        rw [hb62] at HRES E62
        clear hbs hb47 hb62
        cases bs <;> cases b47 <;> cases b62
        all_goals
          go_wp2_with (first
            | (go_at_call 76; refine (HSP.out _).mono ?_; rintro e w2 ⟨rfl, rfl⟩))
          go_ret
          exact ⟨congrArg (fun b => Ending.returned (.bool b)) (by rw [HEND.out, HRES.out]; rfl), HNB.out⟩
      · have d1 : decide ((k : Int) + 2 + (st.size : Int) < (x.size : Int)) = false := decide_eq_false (by omega)
        have hno : (B x)[k + 2 + st.size]? = none := List.getElem?_eq_none (by rw [← size_B]; omega)
        have HNO := Lib.hid hno
        clear hno
        go_wp2_with fail
        go_ret
        exact ⟨congrArg (fun b => Ending.returned (.bool b)) (by rw [HEND.out, HNO.out]; rfl), HNB.out⟩
end Go.Proofs.YtdjeajbinpgpiaaGreat

namespace Go.Proofs.YtdjeajbinpgpiaaGreat
open Go.RowKit

set_option maxHeartbeats 1000000 in
theorem same7 (w : World) (A1 A2 : Option Addr) (n1 n2 c1 c2 : Nat) (l1 l2 : List At) (h1 : RdA w A1 n1 l1) (h2 : RdA w A2 n2 l2) (hb1 : n1 ≤ 9223372036854775807) :
    Calls Tryz.prog 36 #[.slice A1 n1 c1, .slice A2 n2 c2] w fun e w' => e = .returned (.bool (decide (l1 = l2))) ∧ Below w.heap.size w w' := by
  by_cases hlen : n1 = n2
  · subst hlen
    have H1 := Lib.hid h1
    have H2 := Lib.hid h2
    have HL1 := Lib.hid h1.1
    have HL2 := Lib.hid h2.1
    clear h1 h2
    go_enter Tryz.func36, Tryz.ntmps36
    go_wp2_with fail
    go_loopw [5] (fun i wr => ∃ j : Nat, j ≤ n1 ∧ i = .int .i64 j ∧ Below w.heap.size w wr ∧ l1.take j = l2.take j) (fun i _ => n1 - (intOf i).toNat)
    case atStart => exact ⟨0, Nat.zero_le _, rfl, Below.refl _ _, rfl⟩
    case round =>
      obtain ⟨j, hj, rfl, hb, ht⟩ := hrel
      have HB := Lib.hid hb
      have HT := Lib.hid ht
      clear hb ht
      by_cases hlt : j < n1
      · obtain ⟨x, hx⟩ : ∃ x, l1[j]? = some x := ⟨_, List.getElem?_eq_getElem (by have := HL1.out; omega)⟩
        obtain ⟨y, hy⟩ : ∃ y, l2[j]? = some y := ⟨_, List.getElem?_eq_getElem (by have := HL2.out; omega)⟩
        obtain ⟨a1, rfl, k1, k2⟩ := rdA_at (H1.out.keep HB.out) hx
        obtain ⟨a2, rfl, m1, m2⟩ := rdA_at (H2.out.keep HB.out) hy
        have s1 : IntKind.i64.wrap ((j : Int) + 1) = (j : Int) + 1 := IntWalk.i64_in _ (by omega)
        have hX := Lib.hid hx
        have hY := Lib.hid hy
        clear hx hy
        have d0 : decide ((j : Int) < (n1 : Int)) = true := decide_eq_true (by omega)
        obtain ⟨bq, hbq⟩ : ∃ b, ((x.name.toList == y.name.toList) && (x.val.toList == y.val.toList)) = b := ⟨_, rfl⟩
        cases bq
        · have HQ := Lib.hid hbq
          have hnq := neq_at x.name x.val y.name y.val
          rw [hbq] at hnq
          clear hbq
          go_wp2_with fail
          go_quiet (fail)
          go_wp2_with fail
          go_ret
          have hne : decide (l1 = l2) = false := decide_eq_false (fun e => by
            have h1 := hX.out
            rw [e, hY.out] at h1
            obtain rfl := Option.some.inj h1
            have := HQ.out
            simp at this)
          exact ⟨congrArg (fun b => Ending.returned (.bool b)) hne.symm, below_drewN HB.out _⟩
        · have HQ := Lib.hid hbq
          have hnq := neq_at x.name x.val y.name y.val
          rw [hbq] at hnq
          clear hbq
          go_wp2_with fail
          go_quiet (fail)
          go_wp2_with fail
          refine ⟨⟨j + 1, by omega, by go_num, below_drewN HB.out _, same_step HT.out hX.out hY.out ?_⟩, by simp [intOf]; omega⟩
          have hq := HQ.out
          rw [Bool.and_eq_true] at hq
          cases x; cases y
          rw [At.mk.injEq]
          exact ⟨toList_inj hq.1, toList_inj hq.2⟩
      · have d0 : decide ((j : Int) < (n1 : Int)) = false := decide_eq_false (by omega)
        go_wp2_with fail
        go_ret
        have hq : decide (l1 = l2) = true := decide_eq_true (same_end HT.out (by have := HL1.out; omega) (by have := HL1.out; have := HL2.out; omega))
        exact ⟨congrArg (fun b => Ending.returned (.bool b)) hq.symm, HB.out⟩
  · have hne : l1 ≠ l2 := fun e => hlen (by rw [h1.1, h2.1, e])
    have hni : ¬ ((n1 : Int) = (n2 : Int)) := by omega
    rw [decide_eq_false hne]
    clear hlen h1 h2
    go_enter Tryz.func36, Tryz.ntmps36
    go_wp2_with fail
    go_ret
    exact ⟨rfl, Below.refl _ _⟩

theorem attrs_keep (w : World) (A1 A2 : Option Addr) (n1 n2 c1 c2 : Nat) (l1 l2 : List At) (h1 : RdA w A1 n1 l1) (h2 : RdA w A2 n2 l2) (hb1 : n1 ≤ 9223372036854775807) :
    Calls Tryz.prog 24 #[.slice A1 n1 c1, .slice A2 n2 c2] w fun e w' => e = .returned (.bool (decide (l1 = l2))) ∧ Below w.heap.size w w' := by
  have H := Lib.hid (same7 w A1 A2 n1 n2 c1 c2 l1 l2 h1 h2 hb1)
  clear h1 h2
  go_enter Tryz.func24, Tryz.ntmps24
  go_wp2_with fail
  refine H.out.mono ?_
  rintro e w' ⟨rfl, hb⟩
  go_wp2_with fail
  go_ret
  exact ⟨rfl, hb⟩

set_option maxHeartbeats 1000000 in
theorem has7 (w : World) (A : Option Addr) (n c : Nat) (l : List At) (s : ByteArray) (h : RdA w A n l) (hb : n ≤ 9223372036854775807) :
    Calls Tryz.prog 101 #[.slice A n c, .string s] w fun e w' => e = .returned (.int .i64 (findA l s)) ∧ w = w' := by
  have H := Lib.hid h
  have HL := Lib.hid h.1
  clear h
  go_enter Tryz.func101, Tryz.ntmps101
  go_wp2_with fail
  go_loopw [5] (fun i wr => ∃ j : Nat, j ≤ n ∧ i = .int .i64 j ∧ wr = w ∧ (l.take j).any (nameP s) = false) (fun i _ => n - (intOf i).toNat)
  case atStart => exact ⟨0, Nat.zero_le _, rfl, rfl, rfl⟩
  case round =>
    obtain ⟨j, hj, rfl, rfl, ht⟩ := hrel
    have HT := Lib.hid ht
    clear ht
    by_cases hlt : j < n
    · obtain ⟨x, hx⟩ : ∃ x, l[j]? = some x := ⟨_, List.getElem?_eq_getElem (by have := HL.out; omega)⟩
      obtain ⟨a1, rfl, k1, k2⟩ := rdA_at H.out hx
      have s1 : IntKind.i64.wrap ((j : Int) + 1) = (j : Int) + 1 := IntWalk.i64_in _ (by omega)
      have hX := Lib.hid hx
      clear hx
      have d0 : decide ((j : Int) < (n : Int)) = true := decide_eq_true (by omega)
      cases hq : (x.name.toList == s.toList)
      · have HQ := Lib.hid hq
        go_wp2_with fail
        exact ⟨⟨j + 1, by omega, by go_num, by simp, by rw [any_take HT.out hX.out]; exact HQ.out⟩, by simp [intOf]; omega⟩
      · have HQ := Lib.hid hq
        go_wp2_with fail
        go_ret
        exact ⟨congrArg (fun b => Ending.returned (.int .i64 b)) (findA_hit HT.out hX.out HQ.out).symm, rfl⟩
    · have d0 : decide ((j : Int) < (n : Int)) = false := decide_eq_false (by omega)
      go_wp2_with fail
      go_ret
      have ht := HT.out
      rw [List.take_of_length_le (by have := HL.out; omega)] at ht
      exact ⟨congrArg (fun b => Ending.returned (.int .i64 b)) (findA_none ht).symm, rfl⟩
end Go.Proofs.YtdjeajbinpgpiaaGreat
