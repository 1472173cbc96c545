/- Open elements: Place, Imply, Thorough, Until. -/
import Derived.Test.YtoehpladbdefkaaOpenItem
namespace Go.Proofs.Ytoehpladbdefkaa
open Go.RowKit

/-- The last ones that a rule takes go. -/
def trim (p : It → Bool) (l : List It) : List It := (l.reverse.dropWhile p).reverse
theorem trim_nil (p : It → Bool) : trim p [] = [] := rfl
theorem trim_on {p : It → Bool} {l : List It} {x : It} (h : p x = true) : trim p (l ++ [x]) = trim p l := by simp [trim, h]
theorem trim_stop {p : It → Bool} {l : List It} {x : It} (h : p x = false) : trim p (l ++ [x]) = l ++ [x] := by simp [trim, h]
/-- One goes by one, till one is of the names, it too. -/
def untilR (names : List ByteArray) : List It → Nat × List It
  | [] => (0, [])
  | x :: r => if (x.ns == 1 && inB x.name names) = true then (1, r) else ((untilR names r).1 + 1, (untilR names r).2)
def untilN (names : List ByteArray) (l : List It) : Nat := (untilR names l.reverse).1
def untilI (names : List ByteArray) (l : List It) : List It := (untilR names l.reverse).2.reverse
theorem until_hit {names : List ByteArray} {l : List It} {x : It} (h : (x.ns == 1 && inB x.name names) = true) : untilN names (l ++ [x]) = 1 ∧ untilI names (l ++ [x]) = l := by
  simp only [untilN, untilI, List.reverse_append, List.reverse_cons, List.reverse_nil, List.nil_append, List.singleton_append]
  rw [untilR, if_pos h]; simp
theorem until_on {names : List ByteArray} {l : List It} {x : It} (h : (x.ns == 1 && inB x.name names) = false) : untilN names (l ++ [x]) = untilN names l + 1 ∧ untilI names (l ++ [x]) = untilI names l := by
  simp only [untilN, untilI, List.reverse_append, List.reverse_cons, List.reverse_nil, List.nil_append, List.singleton_append]
  rw [untilR, if_neg (by rw [h]; decide)]; simp
theorem untilN_le (names : List ByteArray) : ∀ l : List It, (untilR names l).1 ≤ l.length
  | [] => Nat.le_refl _
  | x :: r => by
    have := untilN_le names r
    rw [untilR]
    split
    · simp
    · simp; omega
/-- The last place of a handle. -/
def placeR (h : Int) : List Int → Int
  | [] => -1
  | x :: r => if x = h then (r.length : Int) else placeR h r
def placeB (l : List Int) (h : Int) : Int := placeR h l.reverse

set_option maxHeartbeats 2000000 in
set_option maxRecDepth 100000 in
theorem place_item (B : Nat) (w : World) (q : Nat) (l : List It) (hd : Int) (h : LB_item B w q l) :
    Calls Try.prog 74 #[.pointer (some ⟨q, 0, none⟩), .int .i64 hd] w fun e w' => e = .returned (.int .i64 (placeB (l.map It.h) hd)) ∧ Below w.heap.size w w' := by
  have hlen := h.len
  have HL := Lib.hid h
  clear h
  have s1 : IntKind.i64.wrap ((l.length : Int) - 1) = (l.length : Int) - 1 := IntWalk.i64_in _ (by omega)
  go_enter Try.func74, Try.ntmps74
  go_wp2_with fail
  refine (lenL_item B w q l HL.out).mono ?_
  rintro e w1 ⟨rfl, rfl⟩
  go_wp2_with fail
  go_loopw [5] (fun i wr => ∃ j : Nat, j ≤ l.length ∧ i = .int .i64 ((j : Int) - 1) ∧ Below w.heap.size w wr ∧ placeR hd ((l.map It.h).reverse) = placeR hd (((l.take j).map It.h).reverse)) (fun i _ => (intOf i + 1).toNat)
  case atStart => exact ⟨l.length, Nat.le_refl _, rfl, Below.refl _ _, by rw [List.take_of_length_le (Nat.le_refl _)]⟩
  case round =>
    obtain ⟨j, hj, rfl, hbr, ht⟩ := hrel
    have HT := Lib.hid ht
    have HB := Lib.hid hbr
    clear ht hbr
    cases j with
    | zero =>
      go_wp2_with fail
      go_ret
      have e2 : placeB (l.map It.h) hd = -1 := HT.out
      exact ⟨congrArg (fun b => Ending.returned (.int .i64 b)) e2.symm, HB.out⟩
    | succ m =>
      have e1 : (((m + 1 : Nat) : Int) - 1) = (m : Int) := by omega
      rw [e1]
      have hm : m < l.length := by omega
      obtain ⟨y, hy⟩ : ∃ y, l[m]? = some y := ⟨_, List.getElem?_eq_getElem hm⟩
      have hstep : placeR hd (((l.take (m + 1)).map It.h).reverse) = if y.h = hd then (m : Int) else placeR hd (((l.take m).map It.h).reverse) := by
        rw [List.take_add_one, hy]
        simp only [Option.toList_some, List.map_append, List.map_cons, List.map_nil, List.reverse_append, List.reverse_cons, List.reverse_nil, List.nil_append, List.singleton_append, placeR, List.length_reverse, List.length_map, List.length_take]
        rw [Nat.min_eq_left (by omega)]
      have s2 : IntKind.i64.wrap ((m : Int) - 1) = (m : Int) - 1 := IntWalk.i64_in _ (by omega)
      have HST := Lib.hid (HT.out.trans hstep)
      have hA := atL_item B wr q l (m : Int) (HL.out.keep HB.out)
      rw [getL_nat, hy] at hA
      simp only [Option.elim, Option.isSome_some] at hA
      have HA := Lib.hid hA
      clear hstep hA hy
      go_wp2_with fail
      refine HA.out.mono ?_
      rintro e w2 ⟨rfl, b2⟩
      have b02 := below_both HB.out b2
      have hb3 : Below w2.heap.size w2 (w2.alloc (.cells (enc_item y).toArray 50)) := (Below.refl _ _).alloc (Nat.le_refl _) _
      have HB3 := Lib.hid (below_both b02 hb3)
      obtain ⟨hvc, _⟩ := var_item (x := y) (Blk.new w2 50 (enc_item y).toArray (0, 0))
      have c0 := hvc 0 _ rfl
      clear hvc b2 b02 hb3
      unfold enc_item at c0
      simp only [val_item]
      by_cases hq : y.h = hd
      · have hst := HST.out
        rw [if_pos hq] at hst
        have HS := Lib.hid hst
        clear hst
        have d1 : (y.h == hd) = true := by rw [hq]; exact beq_self_eq_true _
        clear hq
        go_wp2_with fail
        go_ret
        have e2 : placeB (l.map It.h) hd = (m : Int) := HS.out
        exact ⟨congrArg (fun b => Ending.returned (.int .i64 b)) e2.symm, HB3.out⟩
      · have hst := HST.out
        rw [if_neg hq] at hst
        have HS := Lib.hid hst
        clear hst
        have d1 : (y.h == hd) = false := by rw [beq_eq_false_iff_ne]; exact hq
        clear hq
        go_wp2_with fail
        exact ⟨⟨m, by omega, rfl, HB3.out, HS.out⟩, by simp [intOf]⟩

set_option maxHeartbeats 2000000 in
set_option maxRecDepth 100000 in
theorem until_item (F : Nat → Prop) (w : World) (q : Nat) (l : List It) (A : Option Addr) (c : Nat) (names : List ByteArray) (h : LF_item F w q l) (hr : ∀ w', But F w w' → Rd w' A names.length 1 (strs names)) (hb : names.length ≤ 9223372036854775807) :
    Calls Try.prog 40 #[.pointer (some ⟨q, 0, none⟩), .slice A names.length c] w fun e w' => e = .returned (.int .i64 (untilN names l : Int)) ∧ LF_item F w' q (untilI names l) ∧ But F w w' := by
  have hlen := h.len
  have HL := Lib.hid h
  have HR := Lib.hid hr
  clear h hr
  go_enter Try.func40, Try.ntmps40
  go_wp2_with fail
  go_loopw [5] (fun i wr => ∃ (n : Nat) (lr : List It), n + lr.length ≤ l.length ∧ i = .int .i64 n ∧ LF_item F wr q lr ∧ But F w wr ∧ untilN names l = n + untilN names lr ∧ untilI names l = untilI names lr) (fun i _ => l.length + 1 - (intOf i).toNat)
  case atStart => exact ⟨0, l, by omega, rfl, HL.out, But.refl _ _, by omega, rfl⟩
  case round =>
    obtain ⟨n, lr, hnl, rfl, hlf, hbr, hn, hl⟩ := hrel
    have HLF := Lib.hid hlf
    have HB := Lib.hid hbr
    have HN := Lib.hid hn
    have HLL := Lib.hid hl
    clear hlf hbr hn hl
    rcases List.eq_nil_or_concat lr with rfl | ⟨l0, y, rfl⟩
    · go_wp2_with fail
      refine (popF_none_item F _ q HLF.out).mono ?_
      rintro e w2 ⟨rfl, b2⟩
      have HB2 := Lib.hid (HB.out.trans (S1 := fun _ => False) (But.of_below b2) (fun _ h => h.elim))
      have HLF2 := Lib.hid (HLF.out.keep b2)
      go_wp2_with fail
      go_ret
      refine ⟨congrArg (fun b => Ending.returned (.int .i64 b)) ?_, ?_, HB2.out.alloc _⟩
      · rw [HN.out]; simp [untilN, untilR]
      · rw [HLL.out]; exact HLF2.out.keep ((Below.refl _ _).alloc (Nat.le_refl _) _)
    · rw [List.concat_eq_append] at *
      have hl0 : (l0 ++ [y]).length = l0.length + 1 := by simp
      go_wp2_with fail
      refine (popF_item F _ q l0 y HLF.out).mono ?_
      rintro e w2 ⟨rfl, hlf2, b2⟩
      have hb2 := HB.out.trans b2 (fun k hk => .inl hk)
      have hb3 : But F w (w2.alloc (.cells (enc_item y).toArray 50)) := hb2.alloc _
      obtain ⟨hvc, _⟩ := var_item (x := y) (Blk.new w2 50 (enc_item y).toArray (0, 0))
      have c0 := hvc 0 _ rfl; have c1 := hvc 1 _ rfl; have c2 := hvc 2 _ rfl; have c3 := hvc 3 _ rfl
      have HI := Lib.hid (is_name_item _ y A c names (HR.out _ hb3) hb)
      have HB3 := Lib.hid hb3
      have HLF3 := Lib.hid (hlf2.keep (w1 := w2.alloc (.cells (enc_item y).toArray 50)) ((Below.refl _ _).alloc (Nat.le_refl _) _))
      clear hvc hb2 hb3 hlf2 b2
      unfold enc_item at c0 c1 c2 c3
      simp only [val_item]
      have s1 : IntKind.i64.wrap ((n : Int) + 1) = (n : Int) + 1 := IntWalk.i64_in _ (by omega)
      go_wp2_with fail
      refine HI.out.mono ?_
      rintro e w4 ⟨rfl, b4⟩
      have HB4 := Lib.hid (HB3.out.trans (S1 := fun _ => False) (But.of_below b4) (fun _ h => h.elim))
      have HLF4 := Lib.hid (HLF3.out.keep b4)
      clear b4
      cases hq : (y.ns == 1 && inB y.name names)
      · obtain ⟨u1, u2⟩ := until_on (l := l0) hq
        have HU1 := Lib.hid u1
        have HU2 := Lib.hid u2
        clear hq u1 u2
        go_wp2_with fail
        exact ⟨⟨n + 1, l0, by omega, by go_num, HLF4.out, HB4.out, by rw [HN.out, HU1.out]; omega, by rw [HLL.out, HU2.out]⟩, by simp [intOf]; omega⟩
      · obtain ⟨u1, u2⟩ := until_hit (l := l0) hq
        have HU1 := Lib.hid u1
        have HU2 := Lib.hid u2
        clear hq u1 u2
        go_wp2_with fail
        go_ret
        refine ⟨congrArg (fun b => Ending.returned (.int .i64 b)) ?_, ?_, HB4.out⟩
        · rw [HN.out, HU1.out]; omega
        · rw [HLL.out, HU2.out]; exact HLF4.out
end Go.Proofs.Ytoehpladbdefkaa
