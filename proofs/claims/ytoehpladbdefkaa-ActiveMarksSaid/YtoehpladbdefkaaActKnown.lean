/- What the statements of layer 19 share: known. -/
import Derived.Test.YtoehpladbdefkaaActPush
namespace Go.Proofs.Ytoehpladbdefkaa
open Go.RowKit

def bB : ByteArray := ⟨#[98]⟩
def simE (name : ByteArray) (a : List At) (e : E0) : Bool := (e.name.toList == name.toList) && alikeA e.attrs a
def mkE (e : E0) : Bool := e.marker
theorem pushE_map (name : ByteArray) (a : List At) (l : List Z) (z : Z) : (pushG mkZ (simN name a) l z).map Prod.snd = pushG mkE (simE name a) (l.map Prod.snd) z.2 := pushG_map Prod.snd mkE (simE name a) l z
def knownE (i : Nat) : E0 := ⟨false, (i : Int), bB, []⟩
def knownL (j : Nat) : List E0 := if j = 4 then [knownE 1, knownE 2, knownE 3] else (List.range j).map knownE
theorem known_next (j : Nat) (h : j < 4) : pushG mkE (simE bB []) (knownL j) (knownE j) = knownL (j + 1) := by
  have hs : ∀ i, simE bB [] (knownE i) = true := fun i => by
    unfold simE knownE
    rw [show alikeA [] [] = true from alike_refl []]
    simp
  have hm : ∀ i, mkE (knownE i) = false := fun _ => rfl
  match j, h with
  | 0, _ => rfl
  | 1, _ => simp [pushG, knownL, List.range_succ, scanR, hs, hm]
  | 2, _ => simp [pushG, knownL, List.range_succ, scanR, hs, hm]
  | 3, _ => simp [pushG, knownL, List.range_succ, scanR, hs, hm, cutL]

set_option maxHeartbeats 2000000 in
set_option maxRecDepth 100000 in
theorem knownAct_any (w : World) :
    Calls Try.prog 21 #[] w fun e w' => e = .returned (.bool true) ∧ Below w.heap.size w w' := by
  go_enter Try.func21, Try.ntmps21
  go_wp2_with fail
  refine (newA w.heap.size w (Nat.le_refl _)).mono ?_
  rintro e w1 ⟨q, rfl, h1, b1⟩
  have HN := Lib.hid h1
  have HB1 := Lib.hid b1
  clear h1 b1
  go_wp2_with fail
  go_loopw [2] (fun i wr => ∃ (j : Nat) (l : List Z), j ≤ 4 ∧ i = .int .i64 j ∧ LA w.heap.size wr q l ∧ l.map Prod.snd = knownL j ∧ Below w.heap.size w wr) (fun i _ => 4 - (intOf i).toNat)
  case atStart => exact ⟨0, [], by omega, rfl, HN.out, rfl, HB1.out⟩
  case round =>
    obtain ⟨j, l, hj, rfl, hla, hlk, hb⟩ := hrel
    have HL := Lib.hid hla
    have HK := Lib.hid hlk
    have HB := Lib.hid hb
    have hlen : l.length ≤ 4 := by
      have := congrArg List.length hlk
      rw [List.length_map] at this
      rw [this]
      unfold knownL
      split
      · simp
      · simp; omega
    clear hla hlk hb
    by_cases hlt : j < 4
    · have s1 : IntKind.i64.wrap ((j : Int) + 1) = (j : Int) + 1 := IntWalk.i64_in _ (by omega)
      have d0 : decide ((j : Int) < 4) = true := decide_eq_true (by omega)
      go_wp2_with fail
      refine (pushA _ _ _ q l (j : Int) bB none 0 0 [] HL.out (Below.refl _ _) (RdA.nil' _) (fun _ => rfl) (fun ad e => by cases e) (by omega) (by omega)).mono ?_
      rintro e w2 ⟨rfl, ⟨x, hla2⟩, b2⟩
      have HL2 := Lib.hid hla2
      have HB2 := Lib.hid (HB.out.trans b2)
      clear hla2 b2
      go_wp2_with fail
      refine ⟨⟨j + 1, _, by omega, by go_num, HL2.out, ?_, HB2.out⟩, by simp [intOf]; omega⟩
      rw [pushE_map, HK.out]
      exact known_next j hlt
    · have d0 : decide ((j : Int) < 4) = false := decide_eq_false (by omega)
      obtain rfl : j = 4 := by omega
      have hl3 : l.length = 3 := by
        have := congrArg List.length HK.out
        rw [List.length_map] at this
        rw [this]; rfl
      obtain ⟨z, hz⟩ : ∃ z, l[0]? = some z := ⟨_, List.getElem?_eq_getElem (by omega)⟩
      have hzk : z.2 = knownE 1 := by
        have : (l.map Prod.snd)[0]? = some z.2 := by rw [List.getElem?_map, hz]; rfl
        rw [HK.out] at this
        simpa [knownL] using this.symm
      obtain ⟨F, hrep⟩ := HL.out.rep (List.mem_of_getElem? hz)
      have hzh : z.1.h = 1 := by rw [hrep.h, hzk]; rfl
      have HAt := Lib.hid (atA _ _ q l 0 z HL.out hz)
      have HL3 := Lib.hid hl3
      have HZH := Lib.hid hzh
      clear hz hzk hrep hl3 hzh
      go_wp2_with fail
      refine HAt.out.mono ?_
      rintro e w2 ⟨rfl, b2⟩
      have hb3 := b2.alloc b2.size (.cells (enc_entry z.1).toArray 33)
      have HL4 := Lib.hid (HL.out.keep hb3)
      have HB3 := Lib.hid (below_then HB.out HB.out.size hb3)
      obtain ⟨hvc, _⟩ := var_entry (x := z.1) (Blk.new w2 33 (enc_entry z.1).toArray (0, 0))
      have c1 := hvc 1 _ rfl
      rw [HZH.out] at c1
      unfold enc_entry at c1 HL4 HB3
      clear hvc b2 hb3
      simp only [val_entry]
      go_wp2_with fail
      refine (lenA _ _ q l HL4.out).mono ?_
      rintro e w3 ⟨rfl, rfl⟩
      rw [HL3.out, show ((3 : Nat) : Int) = 3 from rfl]
      go_wp2_with fail
      go_ret
      exact ⟨rfl, HB3.out⟩
end Go.Proofs.Ytoehpladbdefkaa
