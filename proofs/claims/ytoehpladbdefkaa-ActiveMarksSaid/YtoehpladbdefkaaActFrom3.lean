/- The list of active formatting: From at the function arbour/arbourlaw19.ActiveMarks$3. -/
import Derived.Test.YtoehpladbdefkaaActSame
namespace Go.Proofs.Ytoehpladbdefkaa
open Go.RowKit

/-- A function value that tells of a number, and makes memory alone. -/
def Tells_m3 (w : World)  (pf : Int → Bool) : Prop := ∀ (h : Int) (W : World), Below w.heap.size w W → Calls Try.prog 27 #[.int .i64 h] W fun e W' => e = .returned (.bool (pf h)) ∧ Below W.heap.size W W'
theorem Tells_m3.keep {w w1 : World}  {pf : Int → Bool} (h : Tells_m3 w  pf) (hb : Below w.heap.size w w1) : Tells_m3 w1  pf := fun n W hW => h n W (below_both hb hW)

set_option maxHeartbeats 2000000 in
set_option maxRecDepth 100000 in
theorem stop_m3 (B : Nat) (w : World) (q : Nat) (l : List Z) (bl bi : Nat)  (pf : Int → Bool) (m : Nat) (z : Z) (hcl : w.cell? ⟨bl, 0, none⟩ = some (.pointer (some ⟨q, 0, none⟩))) (hci : w.cell? ⟨bi, 0, none⟩ = some (.func (.func 27) #[] #[])) (hla : LA B w q l) (hz : l[m]? = some z) (hf : Tells_m3 w  pf) :
    Calls Try.prog 65 #[.int .i64 (m : Int), .pointer (some ⟨bl, 0, none⟩), .pointer (some ⟨bi, 0, none⟩)] w fun e w' => e = .returned (.bool (stopZ pf z)) ∧ Below w.heap.size w w' := by
  have HAt := Lib.hid (atA B w q l m z hla hz)
  have HL := Lib.hid hla
  have HZM := Lib.hid (List.mem_of_getElem? hz)
  have HF := Lib.hid hf
  have HCI := Lib.hid hci
  clear hla hz hf hci
  go_enter Try.func65, Try.ntmps65
  go_wp2_with fail
  refine HAt.out.mono ?_
  rintro e w2 ⟨rfl, b2⟩
  have hb3 : Below w.heap.size w (w2.alloc (.cells (enc_entry z.1).toArray 33)) := b2.alloc b2.size _
  obtain ⟨hvc, _⟩ := var_entry (x := z.1) (Blk.new w2 33 (enc_entry z.1).toArray (0, 0))
  have c0 := hvc 0 _ rfl; have c1 := hvc 1 _ rfl
  obtain ⟨F, hrep⟩ := (HL.out.keep hb3).rep HZM.out
  obtain ⟨bm, hbm⟩ : ∃ b, z.2.marker = b := ⟨_, rfl⟩
  have hmk : z.1.marker = bm := by rw [hrep.marker, hbm]
  have HMK := Lib.hid (show mkZ z = bm from hbm)
  have hci3 := cell_keep hb3 HCI.out
  have hff := HF.out z.2.h _ hb3
  rw [← hrep.h] at hff
  have HH := Lib.hid hrep.h
  have HFF := Lib.hid hff
  have HB3 := Lib.hid hb3
  unfold enc_entry at c0 c1 HB3 HFF hci3
  rw [hmk] at c0 c1 HB3 HFF hci3
  clear hvc b2 hb3 hrep hbm hff
  simp only [val_entry]
  rw [hmk]
  clear hmk
  cases bm
  · go_wp2_with fail
    refine HFF.out.mono ?_
    rintro e w4 ⟨rfl, b4⟩
    go_wp2_with fail
    go_ret
    refine ⟨congrArg (fun b => Ending.returned (.bool b)) ?_, below_both HB3.out b4⟩
    unfold stopZ
    rw [HMK.out, HH.out, Bool.false_or]
  · go_wp2_with fail
    go_ret
    exact ⟨congrArg (fun b => Ending.returned (.bool b)) (by unfold stopZ; rw [HMK.out]; rfl), HB3.out⟩

set_option maxHeartbeats 2000000 in
set_option maxRecDepth 100000 in
theorem from_m3 (B : Nat) (w : World) (q : Nat) (l : List Z)  (pf : Int → Bool) (h : LA B w q l) (hf : Tells_m3 w  pf) :
    Calls Try.prog 23 #[.pointer (some ⟨q, 0, none⟩), .func (.func 27) #[] #[]] w fun e w' => e = .returned (.int .i64 (fromZ (stopZ pf) l : Int)) ∧ Below w.heap.size w w' := by
  have hlen := h.len
  have hb0 : Below w.heap.size w (w.alloc (.cells #[.pointer (some ⟨q, 0, none⟩)] 23)) := (Below.refl _ _).alloc (Nat.le_refl _) _
  have hb1 : Below w.heap.size w ((w.alloc (.cells #[.pointer (some ⟨q, 0, none⟩)] 23)).alloc (.cells #[.func (.func 27) #[] #[]] 42)) := hb0.alloc (by simp) _
  have hcl : Blk ((w.alloc (.cells #[.pointer (some ⟨q, 0, none⟩)] 23)).alloc (.cells #[.func (.func 27) #[] #[]] 42)) w.heap.size 23 #[.pointer (some ⟨q, 0, none⟩)] (0, 0) := (Blk.new w _ _ _).alloc _
  have hci : Blk ((w.alloc (.cells #[.pointer (some ⟨q, 0, none⟩)] 23)).alloc (.cells #[.func (.func 27) #[] #[]] 42)) (w.heap.size + 1) 42 #[.func (.func 27) #[] #[]] (0, 0) := by
    have := Blk.new (w.alloc (.cells #[.pointer (some ⟨q, 0, none⟩)] 23)) 42 #[.func (.func 27) #[] #[]] (0, 0)
    simpa using this
  obtain ⟨w0, hw0⟩ : ∃ w0, w0 = (w.alloc (.cells #[.pointer (some ⟨q, 0, none⟩)] 23)).alloc (.cells #[.func (.func 27) #[] #[]] 42) := ⟨_, rfl⟩
  have hen := eql_func_nil
  rw [← hw0] at hb1 hcl hci
  have k0 := hcl.cell 0
  have HL := Lib.hid (h.keep hb1)
  have HF := Lib.hid (Tells_m3.keep  hf hb1)
  have HCL := Lib.hid hcl
  have HCI := Lib.hid hci
  have HB1 := Lib.hid hb1
  clear h hf hb0 hb1 hcl hci
  go_enter Try.func23, Try.ntmps23
  go_wp2_with fail
  rw [show (w.alloc (.cells #[.pointer (some ⟨q, 0, none⟩)] 23)).alloc (.cells #[.func (.func 27) #[] #[]] 42) = w0 from hw0.symm]
  clear hw0
  refine (lenA B w0 q l HL.out).mono ?_
  rintro e w1 ⟨rfl, rfl⟩
  go_upto_block 0 with (fail)
  go_cut [6] (fun s6 wx => s6 = .int .i64 (fromZ (stopZ pf) l : Int) ∧ Below w0.heap.size w0 wx)
  case first =>
    go_wp2_with fail
    go_loopw [6] (fun i wr => ∃ (j : Nat), j ≤ l.length ∧ i = .int .i64 (j : Int) ∧ Below w0.heap.size w0 wr ∧ fromZ (stopZ pf) l = fromR (stopZ pf) (l.take j).reverse) (fun i _ => (intOf i).toNat)
    case atStart => exact ⟨l.length, Nat.le_refl _, rfl, Below.refl _ _, by rw [List.take_of_length_le (Nat.le_refl _)]; rfl⟩
    case round =>
      obtain ⟨j, hj, rfl, hbr, ht⟩ := hrel
      have HT := Lib.hid ht
      have HB := Lib.hid hbr
      clear ht hbr
      cases j with
      | zero =>
        go_wp2_with fail
        go_meet
        exact ⟨by rw [HT.out]; rfl, HB.out⟩
      | succ m =>
        obtain ⟨z, hz⟩ : ∃ z, l[m]? = some z := ⟨_, List.getElem?_eq_getElem (by omega)⟩
        have s2 : IntKind.i64.wrap (((m + 1 : Nat) : Int) - 1) = (m : Int) := by
          rw [show (((m + 1 : Nat) : Int) - 1) = (m : Int) by omega]; exact IntWalk.i64_in _ (by omega)
        have d0 : decide (((m + 1 : Nat) : Int) > 0) = true := decide_eq_true (by omega)
        have ht := HT.out
        rw [take_rev hz] at ht
        unfold fromR at ht
        have HST := Lib.hid ht
        have hst := stop_m3 B wr q l w.heap.size (w.heap.size + 1)  pf m z (cell_keep HB.out (HCL.out.cell 0)) (cell_keep HB.out (HCI.out.cell 0)) (HL.out.keep HB.out) hz (Tells_m3.keep  HF.out HB.out)
        have HML := Lib.hid (rev_len (l := l) (m := m) (by omega))
        obtain ⟨bs, hbs⟩ : ∃ b, stopZ pf z = b := ⟨_, rfl⟩
        rw [hbs] at hst
        have HBS := Lib.hid hbs
        have HS := Lib.hid hst
        clear ht hz hst hbs
        generalize hj1 : ((m + 1 : Nat) : Int) = J at *
        have HJ := Lib.hid hj1
        clear hj1
        cases bs
        · go_wp2_with fail
          refine HS.out.mono ?_
          rintro e w2 ⟨rfl, b2⟩
          have HB2 := Lib.hid (below_both HB.out b2)
          clear b2
          go_wp2_with fail
          exact ⟨⟨m, by omega, rfl, HB2.out, by rw [HST.out, HBS.out]; rfl⟩, by have := HJ.out; simp [intOf]; omega⟩
        · go_wp2_with fail
          refine HS.out.mono ?_
          rintro e w2 ⟨rfl, b2⟩
          have HB2 := Lib.hid (below_both HB.out b2)
          clear b2
          go_wp2_with fail
          go_meet
          refine ⟨?_, HB2.out⟩
          have : fromZ (stopZ pf) l = m + 1 := by rw [HST.out, HBS.out, if_pos rfl, HML.out]
          rw [this, HJ.out]
  case rest =>
    obtain ⟨rfl, hb⟩ := hcut
    have HB := Lib.hid hb
    clear hb
    go_wp2_with fail
    go_ret
    exact ⟨rfl, below_then HB1.out HB1.out.size HB.out⟩

end Go.Proofs.Ytoehpladbdefkaa
