/- Open elements: Has. -/
import Derived.Test.YtoehpladbdefkaaOpenTrim
namespace Go.Proofs.Ytoehpladbdefkaa
open Go.RowKit

theorem all_of_item (B : Nat) (w : World) (q : Nat) (l : List It) (h : LB_item B w q l) : ∃ p v, w.cell? ⟨q, 0, none⟩ = some (.pointer (some ⟨p, 0, none⟩)) ∧ Pile_item w p v l := by
  obtain ⟨p, v, hq, hp, _⟩ := h
  exact ⟨p, v, hq.cell 0, hp⟩
def hasP (b : ByteArray) (x : It) : Bool := x.ns == 1 && inB x.name [b]

set_option maxHeartbeats 2000000 in
set_option maxRecDepth 100000 in
theorem has_one (w : World) (x : It) (bb : Nat) (b : ByteArray) (hc : w.cell? ⟨bb, 0, none⟩ = some (.string b)) :
    Calls Try.prog 80 #[val_item x, .pointer (some ⟨bb, 0, none⟩)] w fun e w' => e = .returned (.bool (hasP b x)) ∧ Below w.heap.size w w' := by
  have hb0 : Below w.heap.size w (w.alloc (.cells (enc_item x).toArray 50)) := (Below.refl _ _).alloc (Nat.le_refl _) _
  have hb1 : Below w.heap.size w ((w.alloc (.cells (enc_item x).toArray 50)).alloc (.cells (strs [b]).toArray 9)) := hb0.alloc (by simp) _
  have h0 := cell_keep hb0 hc
  obtain ⟨hvc, _⟩ := var_item (x := x) (Blk.new w 50 (enc_item x).toArray (0, 0))
  have c0 := hvc 0 _ rfl; have c1 := hvc 1 _ rfl; have c2 := hvc 2 _ rfl; have c3 := hvc 3 _ rfl
  have hrd := rd_lit (w.alloc (.cells (enc_item x).toArray 50)) 9 [b]
  rw [show (w.alloc (.cells (enc_item x).toArray 50)).heap.size = w.heap.size + 1 by simp] at hrd
  have HI := Lib.hid (is_name_item _ x (some ⟨w.heap.size + 1, 0, none⟩) 1 [b] hrd (by simp))
  have HB := Lib.hid hb1
  clear hvc hrd hb0 hb1 hc
  unfold enc_item at h0 c0 c1 c2 c3
  unfold val_item
  go_enter Try.func80, Try.ntmps80
  go_wp2_with fail
  refine HI.out.mono ?_
  rintro e w2 ⟨rfl, b2⟩
  go_wp2_with fail
  go_ret
  exact ⟨rfl, below_both HB.out b2⟩

set_option maxHeartbeats 2000000 in
set_option maxRecDepth 100000 in
theorem indexFunc_has (w : World) (v : Value) (l : List It) (bb : Nat) (b : ByteArray) (ho : w.ownsRow 0 50 4 v l.length (l.flatMap enc_item)) (hc : w.cell? ⟨bb, 0, none⟩ = some (.string b)) :
    Calls Try.prog 115 #[v, .func (.func 80) #[] #[.pointer (some ⟨bb, 0, none⟩)]] w fun e w' => (∃ k : Int, e = .returned (.int .i64 k) ∧ decide (k ≥ 0) = l.any (hasP b)) ∧ Below w.heap.size w w' := by
  obtain ⟨A, c, hv, hlc, _, _⟩ := own_rd ho (row_one encOk_item l)
  have hcm : l.length ≤ 9223372036854775807 := by
    rcases ho.2 with ⟨_, h0⟩ | ⟨g, cap, cur, _, _, _, hnc, hm, _⟩
    · rw [h0]; exact Nat.zero_le _
    · simp only [maxLen] at hm; omega
  have HO := Lib.hid ho
  have HC := Lib.hid hc
  clear ho hc
  subst hv
  go_enter Try.func115, Try.ntmps115
  go_wp2_with fail
  go_loopw [8] (fun i wr => ∃ j : Nat, j ≤ l.length ∧ i = .int .i64 j ∧ Below w.heap.size w wr ∧ (l.take j).any (hasP b) = false) (fun i _ => l.length - (intOf i).toNat)
  case atStart => exact ⟨0, Nat.zero_le _, rfl, Below.refl _ _, rfl⟩
  case round =>
    obtain ⟨j, hj, rfl, hb, ht⟩ := hrel
    have HT := Lib.hid ht
    have HB := Lib.hid hb
    clear ht hb
    by_cases hlt : j < l.length
    · obtain ⟨y, hy⟩ : ∃ y, l[j]? = some y := ⟨_, List.getElem?_eq_getElem hlt⟩
      have ho' := owns_but HO.out (But.of_below HB.out) (S := fun _ => False) (fun _ _ h => h)
      obtain ⟨g, cap, rest, hv4, _, hbk, _, _, _⟩ := own_parts ho' (by omega)
      cases hv4
      have hcs : ∀ k u, (enc_item y)[k]? = some u → wr.cell? ⟨g, j * 4 + k, none⟩ = some u := fun k u hu => by
        rw [hbk.cell]
        have hr := row_at encOk_item l j k y u hy hu
        simp only [List.getElem?_toArray]
        rw [List.getElem?_append_left (List.getElem?_eq_some_iff.1 hr).1]
        exact hr
      have c0 := hcs 0 _ rfl; have c1 := hcs 1 _ rfl; have c2 := hcs 2 _ rfl; have c3 := hcs 3 _ rfl
      simp only [Nat.add_zero] at c0
      have s1 : IntKind.i64.wrap ((j : Int) + 1) = (j : Int) + 1 := IntWalk.i64_in _ (by omega)
      have d0 : decide ((j : Int) < (l.length : Int)) = true := decide_eq_true (by omega)
      have HX : Hid ((l.take (j + 1)).any (hasP b) = hasP b y) := by
        show _ = _
        rw [List.take_add_one, hy, List.any_append, HT.out]; simp
      have HK := Lib.hid (has_one wr y bb b (cell_keep HB.out HC.out))
      clear hcs hbk ho' hy
      cases hq : hasP b y
      · have HQ := Lib.hid hq
        rw [hq] at HK
        clear hq
        go_wp2_with fail
        refine HK.out.mono ?_
        rintro e w2 ⟨rfl, b2⟩
        have HB2 := Lib.hid (below_both HB.out b2)
        go_wp2_with fail
        exact ⟨⟨j + 1, by omega, by go_num, HB2.out, by rw [HX.out]; exact HQ.out⟩, by simp [intOf]; omega⟩
      · have HQ := Lib.hid hq
        rw [hq] at HK
        clear hq
        go_wp2_with fail
        refine HK.out.mono ?_
        rintro e w2 ⟨rfl, b2⟩
        have HB2 := Lib.hid (below_both HB.out b2)
        go_wp2_with fail
        go_ret
        refine ⟨⟨_, rfl, ?_⟩, HB2.out⟩
        have h1 : (l.take (j + 1)).any (hasP b) = true := HX.out.trans HQ.out
        obtain ⟨z, hz, hz'⟩ := List.any_eq_true.1 h1
        rw [List.any_eq_true.2 ⟨z, List.mem_of_mem_take hz, hz'⟩]
        exact decide_eq_true (by omega)
    · have d0 : decide ((j : Int) < (l.length : Int)) = false := decide_eq_false (by omega)
      have ht := HT.out
      rw [List.take_of_length_le (by omega)] at ht
      have HE := Lib.hid ht
      clear ht
      go_wp2_with fail
      go_ret
      exact ⟨⟨_, rfl, by rw [HE.out]; rfl⟩, HB.out⟩

set_option maxHeartbeats 2000000 in
set_option maxRecDepth 100000 in
theorem has_item (B : Nat) (w : World) (q : Nat) (l : List It) (b : ByteArray) (h : LB_item B w q l) (hsz : l.length * 56 ≤ 140737488355328) :
    Calls Try.prog 39 #[.pointer (some ⟨q, 0, none⟩), .string b] w fun e w' => e = .returned (.bool (l.any (hasP b))) ∧ Below w.heap.size w w' := by
  have hb0 : Below w.heap.size w (w.alloc (.cells #[.string b] 9)) := (Below.refl _ _).alloc (Nat.le_refl _) _
  obtain ⟨p, v, hq, hp⟩ := all_of_item B _ q l (h.keep hb0)
  have HA := Lib.hid (all_item _ p v l hp hsz)
  have hcb : (w.alloc (.cells #[.string b] 9)).cell? ⟨w.heap.size, 0, none⟩ = some (.string b) := (Blk.new w 9 #[.string b] (0, 0)).cell 0
  have HCB := Lib.hid hcb
  clear hp hcb
  go_enter Try.func39, Try.ntmps39
  go_wp2_with fail
  refine HA.out.mono ?_
  rintro e w1 ⟨v1, rfl, ho, hb1, _⟩
  have HI := Lib.hid (indexFunc_has w1 v1 l w.heap.size b ho (cell_keep hb1 HCB.out))
  have HB := Lib.hid (below_both hb0 hb1)
  clear ho hb1 hb0
  go_wp2_with fail
  have HCF : Calls Try.prog 78 #[v1, .func (.func 80) #[] #[.pointer (some ⟨w.heap.size, 0, none⟩)]] w1 fun e w' => e = .returned (.bool (l.any (hasP b))) ∧ Below w1.heap.size w1 w' := by
    go_enter Try.func78, Try.ntmps78
    go_wp2_with fail
    refine HI.out.mono ?_
    rintro e w2 ⟨⟨k, rfl, hk⟩, b2⟩
    go_wp2_with fail
    go_ret
    exact ⟨rfl, b2⟩
  refine HCF.mono ?_
  rintro e w2 ⟨rfl, b2⟩
  go_wp2_with fail
  go_ret
  exact ⟨rfl, below_both HB.out b2⟩
end Go.Proofs.Ytoehpladbdefkaa
