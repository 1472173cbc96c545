/- The list of active formatting: Find, From; arbourlaw19.same: each with what it answers. -/
import Derived.Test.YtoehpladbdefkaaActPush
namespace Go.Proofs.Ytoehpladbdefkaa
open Go.RowKit

def nameZ (name : ByteArray) (z : Z) : Bool := z.2.name.toList == name.toList
def findR (name : ByteArray) : List Z → Option Z
  | [] => none
  | z :: r => if mkZ z = true then none else if nameZ name z = true then some z else findR name r
def findZ (l : List Z) (name : ByteArray) : Option Z := findR name l.reverse

set_option maxHeartbeats 4000000 in
set_option maxRecDepth 100000 in
theorem findF (B : Nat) (w : World) (q : Nat) (l : List Z) (name : ByteArray) (h : LA B w q l) :
    Calls Try.prog 22 #[.pointer (some ⟨q, 0, none⟩), .string name] w fun e w' => e = .returned (.tuple #[val_entry ((findZ l name).elim zero_of_entry Prod.fst), .bool (findZ l name).isSome]) ∧ Below w.heap.size w w' := by
  have hlen := h.len
  have s1 : IntKind.i64.wrap ((l.length : Int) - 1) = (l.length : Int) - 1 := IntWalk.i64_in _ (by omega)
  have hb0 : Below w.heap.size w (w.alloc (.cells (enc_entry zero_of_entry).toArray 33)) := (Below.refl _ _).alloc (Nat.le_refl _) _
  have hZ := Blk.new w 33 (enc_entry zero_of_entry).toArray (0, 0)
  have hL := h.keep hb0
  obtain ⟨w0, hw0⟩ : ∃ w0, w0 = w.alloc (.cells (enc_entry zero_of_entry).toArray 33) := ⟨_, rfl⟩
  rw [← hw0] at hb0 hZ hL
  have hs0 : w0.heap.size = w.heap.size + 1 := by rw [hw0]; simp
  have HZ := Lib.hid hZ
  have HL := Lib.hid hL
  have HB0 := Lib.hid hb0
  have HS0 := Lib.hid hs0
  clear h hb0 hZ hL hs0
  go_enter Try.func22, Try.ntmps22
  go_wp2_with fail
  rw [show w.alloc (.cells #[.bool false, .int .i64 0, .string ⟨#[]⟩, .slice none 0 0] 33) = w0 from hw0.symm]
  clear hw0
  refine (lenA B w0 q l HL.out).mono ?_
  rintro e w1 ⟨rfl, rfl⟩
  go_upto_block 0 with (fail)
  go_cut [6] (fun _ wx => findZ l name = none ∧ Below w0.heap.size w0 wx)
  case first =>
    go_wp2_with fail
    go_loopw [6] (fun i wr => ∃ (j : Nat), j ≤ l.length ∧ i = .int .i64 ((j : Int) - 1) ∧ Below w0.heap.size w0 wr ∧ findZ l name = findR name (l.take j).reverse) (fun i _ => (intOf i + 1).toNat)
    case atStart => exact ⟨l.length, Nat.le_refl _, rfl, Below.refl _ _, by rw [List.take_of_length_le (Nat.le_refl _)]; rfl⟩
    case round =>
      obtain ⟨j, hj, rfl, hbr, ht⟩ := hrel
      have HT := Lib.hid ht
      have HB := Lib.hid hbr
      clear ht hbr
      cases j with
      | zero =>
        go_wp2_with fail
        go_meet
        exact ⟨HT.out, HB.out⟩
      | succ m =>
        have e1 : (((m + 1 : Nat) : Int) - 1) = (m : Int) := by omega
        rw [e1]
        obtain ⟨z, hz⟩ : ∃ z, l[m]? = some z := ⟨_, List.getElem?_eq_getElem (by omega)⟩
        have s2 : IntKind.i64.wrap ((m : Int) - 1) = (m : Int) - 1 := IntWalk.i64_in _ (by omega)
        have ht := HT.out
        rw [take_rev hz] at ht
        unfold findR at ht
        have HST := Lib.hid ht
        have HAt := Lib.hid (atA B wr q l m z (HL.out.keep HB.out) hz)
        have HZM := Lib.hid (List.mem_of_getElem? hz)
        clear ht hz
        go_wp2_with fail
        refine HAt.out.mono ?_
        rintro e w2 ⟨rfl, b2⟩
        have hb3 : Below wr.heap.size wr (w2.alloc (.cells (enc_entry z.1).toArray 33)) := b2.alloc b2.size _
        have hb03 := below_both HB.out hb3
        obtain ⟨hvc, _⟩ := var_entry (x := z.1) (Blk.new w2 33 (enc_entry z.1).toArray (0, 0))
        have c0 := hvc 0 _ rfl; have c1 := hvc 1 _ rfl; have c2 := hvc 2 _ rfl; have c3 := hvc 3 _ rfl
        obtain ⟨F, hrep⟩ := (HL.out.keep hb03).rep HZM.out
        obtain ⟨hzc, hzf⟩ := var_entry (x := zero_of_entry) (HZ.out.keep hb03)
        have z0 := hzc 0 _ rfl; have z1 := hzc 1 _ rfl; have z2 := hzc 2 _ rfl; have z3 := hzc 3 _ rfl
        obtain ⟨bm, hbm⟩ : ∃ b, z.2.marker = b := ⟨_, rfl⟩
        obtain ⟨bn, hbn⟩ : ∃ b, (z.1.name.toList == name.toList) = b := ⟨_, rfl⟩
        have HNM : Hid (nameZ name z = bn) := by show _ = _; unfold nameZ; rw [← hrep.name, hbn]
        have hmk : z.1.marker = bm := by rw [hrep.marker, hbm]
        have HMK := Lib.hid (show mkZ z = bm from hbm)
        have HB3 := Lib.hid hb03
        have hsz : w.heap.size ≤ w2.heap.size := by have := HS0.out; have := (below_both HB.out b2).size; omega
        have HSZ := Lib.hid hsz
        unfold enc_entry at c0 c1 c2 c3 HB3 z0 z1 z2 z3 hzf
        rw [hmk] at c0 c1 c2 c3 HB3 z0 z1 z2 z3
        have HF := Lib.hid hzf
        clear hvc b2 hb3 hb03 hrep hbm hzc hsz hzf
        simp only [val_entry]
        rw [hmk]
        cases bm
        · cases bn
          · go_wp2_with fail
            exact ⟨⟨m, by omega, rfl, HB3.out, by rw [HST.out, HMK.out, HNM.out]; rfl⟩, by simp [intOf]⟩
          · have f0 := HF.out 0; have f1 := HF.out 1; have f2 := HF.out 2; have f3 := HF.out 3
            rw [hmk] at f0 f1 f2 f3
            have hfi : findZ l name = some z := by rw [HST.out, HMK.out, HNM.out]; rfl
            have HFI := Lib.hid hfi
            have HMK2 := Lib.hid hmk
            clear hfi hmk
            go_wp2_with fail
            refine bodyPost_ret (v := .tuple #[.agg #[.bool false, .int .i64 z.1.h, .string z.1.name, .slice z.1.a z.1.n z.1.c], .bool true]) (by simp [results, Try.results22, go_sem, z0, z1, z2, z3]) rfl ⟨by rw [HFI.out]; simp [val_entry, HMK2.out], ?_⟩
            have hb := below_then HB0.out HB0.out.size HB3.out
            exact (((hb.setCell (Nat.le_refl _) _).setCell (Nat.le_refl _) _).setCell (Nat.le_refl _) _).setCell (Nat.le_refl _) _
        · clear hmk
          go_wp2_with fail
          go_meet
          exact ⟨by rw [HST.out, HMK.out]; rfl, HB3.out⟩
  case rest =>
    obtain ⟨hf, hb⟩ := hcut
    have HFI := Lib.hid hf
    have HB := Lib.hid hb
    obtain ⟨hzc, hzf⟩ := var_entry (x := zero_of_entry) (HZ.out.keep hb)
    have z0 := hzc 0 _ rfl; have z1 := hzc 1 _ rfl; have z2 := hzc 2 _ rfl; have z3 := hzc 3 _ rfl
    clear hf hb hzc
    go_wp2_with fail
    refine bodyPost_ret (v := .tuple #[val_entry zero_of_entry, .bool false]) (by simp [results, Try.results22, go_sem, z0, z1, z2, z3, val_entry, zero_of_entry]) rfl ⟨by rw [HFI.out]; rfl, ?_⟩
    have hb := below_then HB0.out HB0.out.size HB.out
    exact (((hb.setCell (Nat.le_refl _) _).setCell (Nat.le_refl _) _).setCell (Nat.le_refl _) _).setCell (Nat.le_refl _) _
end Go.Proofs.Ytoehpladbdefkaa
