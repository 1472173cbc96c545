/- Joined texts: Tab, Named. -/
import Derived.Test.YtdjeajbinpgpiaaGreatJLexerTells8
import Derived.Test.YtdjeajbinpgpiaaGreatJLexerTells7
import Derived.Test.YtdjeajbinpgpiaaGreatJLexerTells1
import Derived.IntWalk
import Derived.Deep.Matrix
namespace Go.Proofs.YtdjeajbinpgpiaaGreat
open Go.RowKit
theorem tabT_len : tabT.length = 51 := by decide
set_option maxHeartbeats 4000000 in
set_option maxRecDepth 100000 in
theorem table_any (w : World) :
    Calls Tryz.prog 111 #[] w fun e w' => e = .returned (.slice (some ⟨w.heap.size, 0, none⟩) 51 51) ∧ w.alloc (.cells tabCells 108) = w' := by
  go_enter Tryz.func111, Tryz.ntmps111
  go_wp2
  go_ret
  exact ⟨rfl, congrArg (fun c => w.alloc (.cells c 108)) (by kernel_rfl)⟩
end Go.Proofs.YtdjeajbinpgpiaaGreat

namespace Go.Proofs.YtdjeajbinpgpiaaGreat
open Go.RowKit

theorem encOk_R : EncOk encR 2 := fun x => ⟨rfl, fun u hu => List.all_eq_true.1 (show (encR x).all (fun u => u.oneCell') = true from rfl) u hu⟩
/-- A table in memory. -/
def TabAt (w : World) (ad : Addr) : Prop := ∀ j u, (tabT.flatMap encR)[j]? = some u → w.cell? (ad.add j) = some u
theorem TabAt.keep {w w' : World} {ad : Addr} (h : TabAt w ad) (hb : Below w.heap.size w w') : TabAt w' ad := fun j u hu => cell_keep hb (h j u hu)
theorem add_block (ad : Addr) (j : Nat) : (ad.add j).block = ad.block := by unfold Addr.add; split <;> rfl
theorem cell_far {w : World} {p q : Addr} (h : q.block ≠ p.block) (u : Value) : (w.setCell p u).cell? q = w.cell? q := by
  unfold World.cell?
  rw [Below.heap_setCell w p u q.block h]
theorem TabAt.set {w : World} {ad : Addr} (h : TabAt w ad) {p : Addr} (hp : ad.block ≠ p.block) (u : Value) : TabAt (w.setCell p u) ad := fun j x hx => (cell_far (by rw [add_block]; exact hp) u).trans (h j x hx)
theorem tab_new (w : World) (e : TypeId) : TabAt (w.alloc (.cells tabCells e)) ⟨w.heap.size, 0, none⟩ := fun j u hu => by
  rw [add0, (Blk.new w e tabCells (0, 0)).cell j]
  unfold tabCells
  rw [List.getElem?_toArray]
  exact hu
theorem tab_cells {w : World} {ad : Addr} {j : Nat} {x : ByteArray × ByteArray} (hc : TabAt w ad) (hx : tabT[j]? = some x) :
    w.cell? (ad.add (j * 2)) = some (.string x.1) ∧ w.cell? { ad.add (j * 2) with off := (ad.add (j * 2)).off + 1, spot := none } = some (.string x.2) := by
  have k0 := hc (j * 2 + 0) _ (row_at encOk_R tabT j 0 x _ hx rfl)
  have k1 := hc (j * 2 + 1) _ (row_at encOk_R tabT j 1 x _ hx rfl)
  simp only [Nat.add_zero] at k0
  rw [← Go.Deep.add_add] at k1
  exact ⟨k0, (Addr.add_succ' (ad.add (j * 2)) 0) ▸ k1⟩
theorem table_at (w : World) :
    Calls Tryz.prog 111 #[] w fun e w' => ∃ ad, e = .returned (.slice (some ad) 51 51) ∧ TabAt w' ad ∧ w.heap.size ≤ ad.block ∧ Below w.heap.size w w' :=
  (table_any w).mono fun _ _ ⟨he, hw⟩ => ⟨_, he, hw ▸ tab_new w _, Nat.le_refl _, hw ▸ (Below.refl _ _).alloc (Nat.le_refl _) _⟩
def foldT (s : List UInt8) (j : Nat) : ByteArray × ByteArray := (tabT.take j).foldl (nameStep s) (⟨#[]⟩, ⟨#[]⟩)
theorem foldT_step (s : List UInt8) {j : Nat} {x : ByteArray × ByteArray} (hx : tabT[j]? = some x) : foldT s (j + 1) = nameStep s (foldT s j) x := by
  unfold foldT
  rw [List.take_add_one, hx, List.foldl_append]; rfl
theorem foldT_end (s : List UInt8) : foldT s 51 = namedR s := by
  unfold foldT namedR
  rw [List.take_of_length_le (by decide)]
theorem step_yes {s : List UInt8} {b x : ByteArray × ByteArray} (h1 : b.1.size < x.1.size) (h2 : Lib.hasPrefix s (B x.1) = true) : nameStep s b x = x := if_pos ⟨h1, h2⟩
theorem step_no {s : List UInt8} {b x : ByteArray × ByteArray} (h : ¬ (b.1.size < x.1.size ∧ Lib.hasPrefix s (B x.1) = true)) : nameStep s b x = b := if_neg h

set_option maxHeartbeats 2000000 in
set_option maxRecDepth 100000 in
theorem named_any (s : ByteArray) (w : World) :
    Calls Tryz.prog 91 #[.string s] w fun e w' => e = .returned (.tuple #[.string (namedR (B s)).2, .int .i64 (namedR (B s)).1.size]) ∧ Below w.heap.size w w' := by
  have hA := Blk.new w 108 #[.string ⟨#[]⟩, .string ⟨#[]⟩] (0, 0)
  have HA := Lib.hid hA
  have HB0 := Lib.hid ((Below.refl w.heap.size w).alloc (Nat.le_refl _) (.cells #[.string ⟨#[]⟩, .string ⟨#[]⟩] 108))
  have HP := Lib.hid (fun p w => hasPrefix_any s p w)
  clear hA
  go_enter Tryz.func91, Tryz.ntmps91
  go_wp2_with fail
  refine (table_at _).mono ?_
  rintro e w1 ⟨ad, rfl, ht, had, hb⟩
  rw [show (w.alloc (.cells #[.string ⟨#[]⟩, .string ⟨#[]⟩] 108)).heap.size = w.heap.size + 1 by simp] at had
  have HAD : Hid (ad.block ≠ w.heap.size) := by show ad.block ≠ w.heap.size; omega
  clear had
  have HT1 := Lib.hid ht
  have HA1 := Lib.hid (HA.out.keep hb)
  have HB1 := Lib.hid (below_then HB0.out HB0.out.size hb)
  clear ht hb
  go_wp2_with fail
  go_loopw [9] (fun i wr => ∃ (j : Nat) (b : ByteArray × ByteArray), j ≤ 51 ∧ i = .int .i64 j ∧ Hid (foldT (B s) j = b) ∧ Blk wr w.heap.size 108 #[.string b.1, .string b.2] (0, 0) ∧ TabAt wr ad ∧ Below w.heap.size w wr) (fun i _ => 51 - (intOf i).toNat)
  case atStart => exact ⟨0, (⟨#[]⟩, ⟨#[]⟩), by omega, rfl, rfl, HA1.out, HT1.out, HB1.out⟩
  case round =>
    obtain ⟨j, ⟨b1, b2⟩, hj, rfl, HF, hA, hT, hB⟩ := hrel
    simp only at hA
    have HAr := Lib.hid hA
    have HTr := Lib.hid hT
    have HBr := Lib.hid hB
    by_cases hlt : j < 51
    · obtain ⟨x, hx⟩ : ∃ x, tabT[j]? = some x := ⟨_, List.getElem?_eq_getElem (show j < tabT.length from hlt)⟩
      obtain ⟨k1, k2⟩ := tab_cells hT hx
      have HS := Lib.hid (foldT_step (B s) hx)
      obtain ⟨x1, x2⟩ := x
      have s1 : IntKind.i64.wrap ((j : Int) + 1) = (j : Int) + 1 := IntWalk.i64_in _ (by omega)
      have hb2 := HBr.out.alloc HBr.out.size (.cells #[.string x1, .string x2] 108)
      have HB2 := Lib.hid hb2
      have hal : Below wr.heap.size wr (wr.alloc (.cells #[.string x1, .string x2] 108)) := (Below.refl _ _).alloc (Nat.le_refl _) _
      have HA2 := Lib.hid (hA.keep hal)
      have HT2 := Lib.hid (hT.keep hal)
      have c0 : wr.cell? ⟨w.heap.size, 0, none⟩ = some (.string b1) := HAr.out.cell 0
      have c1 : wr.cell? ⟨w.heap.size, 1, none⟩ = some (.string b2) := HAr.out.cell 1
      have f0 := HAr.out.frozen 0 (.inr (Nat.zero_le _))
      have f1 := HAr.out.frozen 1 (.inr (Nat.zero_le _))
      have e0 : (wr.alloc (.cells #[.string x1, .string x2] 108)).cell? ⟨w.heap.size, 0, none⟩ = some (.string b1) := HA2.out.cell 0
      have e1 : (wr.alloc (.cells #[.string x1, .string x2] 108)).cell? ⟨w.heap.size, 1, none⟩ = some (.string b2) := HA2.out.cell 1
      have hz : w.heap.size < wr.heap.size := hA.lt
      clear hx hA hT hB hb2 hal
      by_cases q1 : b1.size < x1.size
      · have d1 : decide (b1.size < x1.size) = true := decide_eq_true q1
        cases q2 : Lib.hasPrefix (B s) (B x1) with
        | true =>
          have HX := Lib.hid (HP.out x1)
          rw [q2] at HX
          have hna := ((HAr.out.set 0 (.string x1)).set 1 (.string x2)).alloc (.cells #[.string x1, .string x2] 108)
          have hnt := ((HTr.out.set (p := ⟨w.heap.size, 0, none⟩) HAD.out (.string x1)).set (p := ⟨w.heap.size, 1, none⟩) HAD.out (.string x2)).keep ((Below.refl _ _).alloc (Nat.le_refl _) (.cells #[.string x1, .string x2] 108))
          have hnb0 := (HBr.out.setCell (p := ⟨w.heap.size, 0, none⟩) (Nat.le_refl _) (.string x1)).setCell (p := ⟨w.heap.size, 1, none⟩) (Nat.le_refl _) (.string x2)
          have hnb := hnb0.alloc hnb0.size (.cells #[.string x1, .string x2] 108)
          have HNA := Lib.hid hna
          have HNT := Lib.hid hnt
          have HNB := Lib.hid hnb
          clear hna hnt hnb hnb0
          have HS2 : Hid (foldT (B s) (j + 1) = (x1, x2)) := HS.out.trans (by rw [HF.out]; exact step_yes (b := (b1, b2)) (x := (x1, x2)) q1 q2)
          clear q2
          go_wp2_with fail
          refine (HX.out _).mono ?_
          rintro e w2 ⟨rfl, rfl⟩
          go_wp2_with fail
          exact ⟨⟨j + 1, (x1, x2), by omega, by go_num, HS2, HNA.out, HNT.out, HNB.out⟩, by simp [intOf]; omega⟩
        | false =>
          have HX := Lib.hid (HP.out x1)
          rw [q2] at HX
          have HS2 : Hid (foldT (B s) (j + 1) = (b1, b2)) := HS.out.trans (by rw [HF.out]; exact step_no (b := (b1, b2)) (x := (x1, x2)) (fun h => by rw [h.2] at q2; cases q2))
          clear q2
          go_wp2_with fail
          refine (HX.out _).mono ?_
          rintro e w2 ⟨rfl, rfl⟩
          go_wp2_with fail
          exact ⟨⟨j + 1, (b1, b2), by omega, by go_num, HS2, HA2.out, HT2.out, HB2.out⟩, by simp [intOf]; omega⟩
      · have d1 : decide (b1.size < x1.size) = false := decide_eq_false q1
        have HS2 : Hid (foldT (B s) (j + 1) = (b1, b2)) := HS.out.trans (by rw [HF.out]; exact step_no (b := (b1, b2)) (x := (x1, x2)) (fun h => q1 h.1))
        go_wp2_with fail
        exact ⟨⟨j + 1, (b1, b2), by omega, by go_num, HS2, HA2.out, HT2.out, HB2.out⟩, by simp [intOf]; omega⟩
    · have he : j = 51 := by omega
      subst he
      have HR : Hid (namedR (B s) = (b1, b2)) := (foldT_end (B s)).symm.trans HF.out
      have c0 : wr.cell? ⟨w.heap.size, 0, none⟩ = some (.string b1) := HAr.out.cell 0
      have c1 : wr.cell? ⟨w.heap.size, 1, none⟩ = some (.string b2) := HAr.out.cell 1
      clear hA hT hB
      go_wp2_with fail
      go_quiet (fail)
      go_wp2_with fail
      go_ret2
      exact ⟨ret_si (by rw [HR.out]) (by rw [HR.out]), below_drewN HBr.out _⟩
end Go.Proofs.YtdjeajbinpgpiaaGreat
