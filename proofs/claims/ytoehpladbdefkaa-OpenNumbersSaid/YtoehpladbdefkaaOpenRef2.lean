/- arbourlaw18.place, until, drop. -/
import Derived.Test.YtoehpladbdefkaaOpenRef
import Derived.Test.YtoehpladbdefkaaOpenSame
import Derived.LoopN
namespace Go.Proofs.Ytoehpladbdefkaa
open Go.RowKit

set_option maxHeartbeats 2000000 in
set_option maxRecDepth 100000 in
theorem place18 (w : World) (A : Option Addr) (n c : Nat) (l : List It) (hd : Int) (h : RdI w A n l) (hn : n ≤ 9223372036854775807) :
    Calls Try.prog 98 #[.slice A n c, .int .i64 hd] w fun e w' => e = .returned (.int .i64 (placeB (l.map It.h) hd)) ∧ w = w' := by
  have HL := Lib.hid h
  have HLN := Lib.hid h.1
  clear h
  have s1 : IntKind.i64.wrap ((n : Int) - 1) = (n : Int) - 1 := IntWalk.i64_in _ (by omega)
  go_enter Try.func98, Try.ntmps98
  go_wp2_with fail
  go_loop [5] (fun i => ∃ j : Nat, j ≤ n ∧ i = .int .i64 ((j : Int) - 1) ∧ Hid (placeR hd ((l.map It.h).reverse) = placeR hd (((l.take j).map It.h).reverse))) (fun i => (intOf i + 1).toNat)
  case atStart => exact ⟨n, Nat.le_refl _, rfl, Lib.hid (by rw [List.take_of_length_le (by have := HLN.out; omega)])⟩
  case round =>
    obtain ⟨j, hj, rfl, HT⟩ := hrel
    cases j with
    | zero =>
      go_wp2_with fail
      go_ret
      have e2 : placeB (l.map It.h) hd = -1 := HT.out
      exact ⟨congrArg (fun b => Ending.returned (.int .i64 b)) e2.symm, rfl⟩
    | succ m =>
      have e1 : (((m + 1 : Nat) : Int) - 1) = (m : Int) := by omega
      rw [e1]
      have hm : m < l.length := by have := HLN.out; omega
      obtain ⟨y, hy⟩ : ∃ y, l[m]? = some y := ⟨_, List.getElem?_eq_getElem hm⟩
      have hstep : placeR hd (((l.take (m + 1)).map It.h).reverse) = if y.h = hd then (m : Int) else placeR hd (((l.take m).map It.h).reverse) := by
        rw [List.take_add_one, hy]
        simp only [Option.toList_some, List.map_append, List.map_cons, List.map_nil, List.reverse_append, List.reverse_cons, List.reverse_nil, List.nil_append, List.singleton_append, placeR, List.length_reverse, List.length_map, List.length_take]
        rw [Nat.min_eq_left (by omega)]
      have s2 : IntKind.i64.wrap ((m : Int) - 1) = (m : Int) - 1 := IntWalk.i64_in _ (by omega)
      have HST := Lib.hid (HT.out.trans hstep)
      obtain ⟨ad, rfl, k0, k1, k2, k3⟩ := rdI_at HL.out hy
      have d6 : (0 : Int) ≤ (m : Int) := by omega
      have d7 : (m : Int) < (n : Int) := by omega
      clear hstep hy e1
      by_cases hq : y.h = hd
      · have hst := HST.out
        rw [if_pos hq] at hst
        have HS := Lib.hid hst
        clear hst
        have d1 : (y.h == hd) = true := by rw [hq]; exact beq_self_eq_true _
        clear hq
        go_wp2_with fail
        go_ret
        have e2 : placeB (l.map It.h) hd = (m : Int) := HS.out
        exact ⟨congrArg (fun b => Ending.returned (.int .i64 b)) e2.symm, rfl⟩
      · have hst := HST.out
        rw [if_neg hq] at hst
        have HS := Lib.hid hst
        clear hst
        have d1 : (y.h == hd) = false := by rw [beq_eq_false_iff_ne]; exact hq
        clear hq
        go_wp2_with fail
        go_round
        case rel => exact ⟨m, by omega, rfl, HS⟩
        case measure => simp [intOf]

theorem take_last {α : Type} {l : List α} {m : Nat} {y : α} (h : l[m]? = some y) : l.take (m + 1) = l.take m ++ [y] := by rw [List.take_add_one, h]; rfl
theorem until_nilN (names : List ByteArray) : untilN names [] = 0 ∧ untilI names [] = [] := ⟨rfl, rfl⟩
set_option maxHeartbeats 4000000 in
set_option maxRecDepth 100000 in
theorem until18 (w : World) (A2 : Option Addr) (n c2 : Nat) (l : List It) (A : Option Addr) (c : Nat) (names : List ByteArray) (h : RdI w A2 n l) (hr : Rd w A names.length 1 (strs names)) (hb : names.length ≤ 9223372036854775807) (hn : n ≤ c2) (hsm : n ≤ 1000000) :
    Calls Try.prog 102 #[.slice A2 n c2, .slice A names.length c] w fun e w' => e = .returned (.tuple #[.slice A2 (untilI names l).length c2, .int .i64 (untilN names l : Int)]) ∧ Below w.heap.size w w' ∧ untilI names l <+: l := by
  have HL := Lib.hid h
  have HLN := Lib.hid h.1
  have HR := Lib.hid hr
  clear h hr
  go_enter Try.func102, Try.ntmps102
  go_wp2_with fail
  go_loopw [0, 6] (fun s0 i wr => ∃ k m : Nat, k + m = n ∧ s0 = .slice A2 m c2 ∧ i = .int .i64 ((k : Int) + 1) ∧ Hid (Below w.heap.size w wr) ∧ Hid (m = 0 → k = 0) ∧ Hid (untilN names l = k + untilN names (l.take m) ∧ untilI names l = untilI names (l.take m))) (fun _ i _ => n + 1 - (intOf i).toNat)
  case atStart => exact ⟨0, n, by omega, rfl, rfl, Below.refl _ _, fun h => rfl, by rw [List.take_of_length_le (by have := HLN.out; omega)]; exact ⟨by omega, rfl⟩⟩
  case round =>
    obtain ⟨k, m, hkm, rfl, rfl, HB, HZ, HU⟩ := hrel
    cases m with
    | zero =>
      have hk : k = 0 := HZ.out rfl
      subst hk
      go_wp2_with fail
      go_ret2
      have h1 := HU.out
      rw [List.take_zero, (until_nilN names).1, (until_nilN names).2] at h1
      rw [h1.1, h1.2]
      exact ⟨rfl, HB.out, List.nil_prefix⟩
    | succ m =>
      have hm : m < l.length := by have := HLN.out; omega
      obtain ⟨y, hy⟩ : ∃ y, l[m]? = some y := ⟨_, List.getElem?_eq_getElem hm⟩
      have htk := take_last hy
      obtain ⟨ad, rfl, k0, k1, k2, k3⟩ := rdI_at (HL.out.keep HB.out) hy
      have HTK := Lib.hid htk
      have hba : Below wr.heap.size wr (wr.alloc (.cells (enc_item y).toArray 50)) := (Below.refl _ _).alloc (Nat.le_refl _) _
      have hB2 := below_then HB.out HB.out.size hba
      have HI := Lib.hid (is18 _ y A c names (HR.out.keep hB2) hb)
      have HB2 := Lib.hid hB2
      obtain ⟨hvc, _⟩ := var_item (x := y) (Blk.new wr 50 (enc_item y).toArray (0, 0))
      have c0 := hvc 0 _ rfl; have c1 := hvc 1 _ rfl; have c2' := hvc 2 _ rfl; have c3 := hvc 3 _ rfl
      have s1 : IntKind.i64.wrap (((m + 1 : Nat) : Int) - 1) = (m : Int) := by rw [show ((m + 1 : Nat) : Int) - 1 = (m : Int) by omega]; exact IntWalk.i64_in _ (by omega)
      have s2 : IntKind.i64.wrap ((m : Int)) = (m : Int) := IntWalk.i64_in _ (by omega)
      have s3 : IntKind.i64.wrap ((k : Int) + 1 + 1) = (k : Int) + 1 + 1 := IntWalk.i64_in _ (by omega)
      have d1 : decide ((m : Int) + 1 > 0) = true := decide_eq_true (by omega)
      have d2 : decide (((m + 1 : Nat) : Int) > 0) = true := decide_eq_true (by omega)
      have i0 : (0 : Int) ≤ (m : Int) := by omega
      have i1 : (m : Int) < ((m + 1 : Nat) : Int) := by omega
      have i2 : (m : Int) ≤ (c2 : Int) := by omega
      have i3 : m ≤ c2 := by omega
      have e1 : (m : Int) + 1 - 1 = (m : Int) := by omega
      have i4 : (m : Int) < (m : Int) + 1 := by omega
      unfold enc_item at c0 c1 c2' c3
      clear hy htk hvc hba hB2
      go_wp2_with fail
      refine HI.out.mono ?_
      rintro e w4 ⟨rfl, b4⟩
      have HB4 := Lib.hid (below_then HB2.out HB2.out.size b4)
      clear b4
      obtain ⟨bq, hq⟩ : ∃ b, isN names y = b := ⟨_, rfl⟩
      have HQ : Hid ((y.ns == 1 && inB y.name names) = bq) := hq
      rw [hq]
      clear hq
      have hpre : l.take m <+: l := List.take_prefix _ _
      have HPRE := Lib.hid hpre
      have hlen : (l.take m).length = m := by rw [List.length_take]; omega
      have HLEN := Lib.hid hlen
      clear hpre hlen
      cases bq
      · have hun := until_on (l := l.take m) HQ.out
        rw [← HTK.out] at hun
        have HUN := Lib.hid hun
        clear hun
        cases m with
        | zero =>
          go_wp2_with fail
          go_ret2
          have h1 := HU.out
          have h2 := HUN.out
          rw [List.take_zero, (until_nilN names).1, (until_nilN names).2] at h2
          rw [h2.1, h2.2] at h1
          rw [h1.1, h1.2]
          exact ⟨congrArg (fun b => Ending.returned (.tuple #[.slice (some ad) 0 c2, .int .i64 b])) (by omega), HB4.out, List.nil_prefix⟩
        | succ m2 =>
          have d3 : (((m2 + 1 : Nat) : Int) == 0) = false := by rw [beq_eq_false_iff_ne]; omega
          have d4 : ((m2 : Int) + 1 == 0) = false := by rw [beq_eq_false_iff_ne]; omega
          go_wp2_with fail
          refine ⟨⟨k + 1, m2 + 1, by omega, rfl, by go_num, HB4, fun h => by omega, ⟨?_, ?_⟩⟩, ?_⟩
          · rw [HU.out.1, HUN.out.1]; omega
          · rw [HU.out.2, HUN.out.2]
          · simp [intOf]; omega
      · have hun := until_hit (l := l.take m) HQ.out
        rw [← HTK.out] at hun
        have HUN := Lib.hid hun
        clear hun
        go_wp2_with fail
        go_ret2
        have h1 := HU.out
        rw [HUN.out.1, HUN.out.2] at h1
        rw [h1.1, h1.2, HLEN.out]
        exact ⟨congrArg (fun b => Ending.returned (.tuple #[.slice (some ad) m c2, .int .i64 b])) (by omega), HB4.out, HPRE.out⟩
end Go.Proofs.Ytoehpladbdefkaa
