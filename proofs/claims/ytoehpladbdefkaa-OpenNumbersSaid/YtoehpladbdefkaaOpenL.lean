/- What the statements of layer 18 share: known. -/
import Derived.Test.YtoehpladbdefkaaOpenHas
import Derived.Test.YtoehpladbdefkaaOpenEl
namespace Go.Proofs.Ytoehpladbdefkaa
open Go.RowKit

def knownN : List ByteArray := [⟨#[104, 116, 109, 108]⟩, ⟨#[98, 111, 100, 121]⟩, ⟨#[112]⟩, ⟨#[108, 105]⟩]
def knownI : List It := [⟨0, 1, ⟨#[104, 116, 109, 108]⟩, none, 0, 0⟩, ⟨1, 1, ⟨#[98, 111, 100, 121]⟩, none, 0, 0⟩, ⟨2, 1, ⟨#[112]⟩, none, 0, 0⟩, ⟨3, 1, ⟨#[108, 105]⟩, none, 0, 0⟩]
theorem known_trim : trim (implyP ⟨#[108, 105]⟩) (knownI.take 4) = knownI :=
  trim_stop (l := knownI.take 3) (x := ⟨3, 1, ⟨#[108, 105]⟩, none, 0, 0⟩) (by simp [implyP])
theorem known_scope : scopeB (knownI.map key_item) 1 [⟨#[112]⟩] = true := by
  simp [scopeB, scanB, knownI, key_item, inB, openB, boundB, boundN, Lib.toList_data]
theorem known_has : knownI.any (hasP ⟨#[98, 111, 100, 121]⟩) = true := by
  simp [knownI, hasP, inB, Lib.toList_data]
theorem known_place : placeB (knownI.map It.h) 2 = 2 := by simp [placeB, placeR, knownI]
theorem known_at (j : Nat) (h : j < 4) : ∃ x, knownN[j]? = some x ∧ knownI[j]? = some ⟨(j : Int), 1, x, none, 0, 0⟩ := by
  match j, h with
  | 0, _ => exact ⟨_, rfl, rfl⟩
  | 1, _ => exact ⟨_, rfl, rfl⟩
  | 2, _ => exact ⟨_, rfl, rfl⟩
  | 3, _ => exact ⟨_, rfl, rfl⟩

set_option maxHeartbeats 2000000 in
set_option maxRecDepth 100000 in
theorem knownOpen_any (w : World) :
    Calls Try.prog 35 #[] w fun e w' => e = .returned (.bool true) ∧ Below w.heap.size w w' := by
  generalize hB : w.heap.size = B
  have hB0 : B ≤ w.heap.size := by omega
  go_enter Try.func35, Try.ntmps35
  go_wp2_with fail
  refine (newL_item B w hB0).mono ?_
  rintro e w1 ⟨q, rfl, h1, b1⟩
  have hs1 := b1.size
  obtain ⟨F0, hF00, hFb, hBq, hB1⟩ := h1.free
  have hF0 := hF00.keep (w1 := w1.alloc (.cells (strs knownN).toArray 9)) ((Below.refl _ _).alloc (Nat.le_refl _) _)
  have hlt0 : ∀ k, F0 k → B ≤ k ∧ k ≠ w1.heap.size := fun k hk => by have := hFb k hk; omega
  have hnb : Blk (w1.alloc (.cells (strs knownN).toArray 9)) w1.heap.size 9 (strs knownN).toArray (0, 0) := Blk.new w1 _ _ _
  have hb2 : Below B w (w1.alloc (.cells (strs knownN).toArray 9)) := hB ▸ b1.alloc hs1 _
  obtain ⟨w2, hw2⟩ : ∃ w2, w2 = w1.alloc (.cells (strs knownN).toArray 9) := ⟨_, rfl⟩
  rw [← hw2] at hF0 hnb hb2
  have HN := Lib.hid hnb
  have HB2 := Lib.hid hb2
  have HF0 := Lib.hid hF0
  have HL0 := Lib.hid hlt0
  clear hnb hb2 hF0 hF00 hlt0 hFb
  go_wp2_with fail
  rw [show w1.alloc (.cells #[.string ⟨#[104, 116, 109, 108]⟩, .string ⟨#[98, 111, 100, 121]⟩, .string ⟨#[112]⟩, .string ⟨#[108, 105]⟩] 9) = w2 from hw2.symm]
  clear hw2
  go_loopw [9] (fun i wr => ∃ (j : Nat) (F : Nat → Prop), j ≤ 4 ∧ i = .int .i64 j ∧ LF_item F wr q (knownI.take j) ∧ (∀ k, F k → B ≤ k ∧ k ≠ w1.heap.size) ∧ Blk wr w1.heap.size 9 (strs knownN).toArray (0, 0) ∧ Below B w wr) (fun i _ => 4 - (intOf i).toNat)
  case atStart => exact ⟨0, F0, by omega, rfl, HF0.out, HL0.out, HN.out, HB2.out⟩
  case round =>
    obtain ⟨j, F, hj, rfl, hlf, hF, hbk, hb⟩ := hrel
    have HLF := Lib.hid hlf
    have HF := Lib.hid hF
    have HBK := Lib.hid hbk
    have HB := Lib.hid hb
    clear hlf hF hbk hb
    by_cases hlt : j < 4
    · obtain ⟨x, hx, hy⟩ := known_at j hlt
      have k1 : wr.cell? ⟨w1.heap.size, j, none⟩ = some (.string x) := by
        rw [HBK.out.cell, List.getElem?_toArray]; unfold strs; rw [List.getElem?_map, hx]; rfl
      have s1 : IntKind.i64.wrap ((j : Int) + 1) = (j : Int) + 1 := IntWalk.i64_in _ (by omega)
      have d0 : decide ((j : Int) < 4) = true := decide_eq_true (by omega)
      have HY := Lib.hid hy
      have hlen : (knownI.take j).length ≤ 4 := by rw [List.length_take]; omega
      clear hx hy
      go_wp2_with fail
      refine (pushF_item F _ q _ ⟨(j : Int), 1, x, none, 0, 0⟩ HLF.out (by omega)).mono ?_
      rintro e w3 ⟨rfl, hlf3, b3⟩
      have hlt2 := HBK.out.lt
      have HB3 := Lib.hid (HB.out.trans (b3.below (fun k hk => (HF.out k hk).1) (Nat.le_trans hB0 HB.out.size)))
      have HK3 := Lib.hid (HBK.out.but b3 (fun hk => (HF.out _ hk).2 rfl))
      have hlf4 : LF_item (fun k => F k ∨ wr.heap.size ≤ k) w3 q (knownI.take (j + 1)) := by rw [List.take_add_one, HY.out]; exact hlf3
      have HLF4 := Lib.hid hlf4
      have hF4 : ∀ k, (F k ∨ wr.heap.size ≤ k) → B ≤ k ∧ k ≠ w1.heap.size := fun k hk => by
        rcases hk with hk | hk
        · exact HF.out k hk
        · have := HB.out.size; omega
      have HF4 := Lib.hid hF4
      clear hlf3 b3 hlf4 hF4
      go_wp2_with fail
      exact ⟨⟨j + 1, _, by omega, by go_num, HLF4.out, HF4.out, HK3.out, HB3.out⟩, by simp [intOf]; omega⟩
    · have d0 : decide ((j : Int) < 4) = false := decide_eq_false (by omega)
      have hj4 : j = 4 := by omega
      subst hj4
      go_wp2_with fail
      refine (imply_item F _ q _ ⟨#[108, 105]⟩ HLF.out).mono ?_
      rintro e w3 ⟨rfl, hlf3, b3⟩
      have HB3 := Lib.hid (HB.out.trans (b3.below (fun k hk => (HF.out k hk).1) (Nat.le_trans hB0 HB.out.size)))
      rw [known_trim] at hlf3
      have hlb : LB_item B w3 q knownI := hlf3.shut (fun k hk => (HF.out k hk).1) hBq (Nat.le_trans hB0 HB3.out.size)
      have HLB := Lib.hid hlb
      clear hlf3 b3 hlb
      go_wp2_with fail
      refine (lenL_item B _ q _ HLB.out).mono ?_
      rintro e w4 ⟨rfl, rfl⟩
      rw [show (knownI.length : Int) = 4 from rfl]
      go_wp2_with fail
      have ba : Below w3.heap.size w3 (w3.alloc (.cells #[.string ⟨#[112]⟩] 9)) := (Below.refl _ _).alloc (Nat.le_refl _) _
      have hsc := scope_item B _ q _ 1 (some ⟨w3.heap.size, 0, none⟩) 1 [⟨#[112]⟩] (HLB.out.keep ba) (rd_lit w3 9 [⟨#[112]⟩]) (by simp)
      rw [known_scope] at hsc
      refine hsc.mono ?_
      rintro e w5 ⟨rfl, b5⟩
      have B35 := below_both ba b5
      go_wp2_with fail
      have hh := has_item B w5 q _ ⟨#[98, 111, 100, 121]⟩ (HLB.out.keep B35) (by simp [knownI])
      rw [known_has] at hh
      refine hh.mono ?_
      rintro e w6 ⟨rfl, b6⟩
      have B36 := below_both B35 b6
      go_wp2_with fail
      have hp := place_item B w6 q _ 2 (HLB.out.keep B36)
      rw [known_place] at hp
      refine hp.mono ?_
      rintro e w7 ⟨rfl, b7⟩
      have B37 := below_both B36 b7
      go_wp2_with fail
      go_ret
      exact ⟨rfl, below_then HB3.out (Nat.le_trans hB0 HB3.out.size) B37⟩
end Go.Proofs.Ytoehpladbdefkaa
