/- ScanNumbers, walked. -/
import Derived.Test.YtafinbcmelpieaaScanL
namespace Go.Proofs.Ytafinbcmelpieaa
open Go.RowKit

theorem short_of (C : Array Value) (l : List ByteArray) (hC : C = (l.map Value.string).toArray) (hl : ∀ s ∈ l, s.size ≤ 16) (k : Nat) (hk : k < l.length) : ∃ s : ByteArray, s.size ≤ 16 ∧ C[k]? = some (.string s) := by
  subst hC
  refine ⟨l[k], hl _ (List.getElem_mem hk), ?_⟩
  simp [hk]

set_option maxHeartbeats 1000000 in
theorem walk_ScanNumbers (w : World) (hL : Lax w) :
    Calls Try.prog 6 #[] w fun e w' => e = .returned (.bool true) ∧ Below w.heap.size w w' := by
  go_enter Try.func6, Try.ntmps6
  go_wp2_with fail
  have hb0 : Below w.heap.size w (w.alloc (.cells #[.string ⟨#[]⟩, .string ⟨#[97]⟩, .string ⟨#[60, 97, 32, 98, 47, 62]⟩, .string ⟨#[32, 9, 10, 12, 13, 32, 120]⟩, .string ⟨#[97, 97, 97, 98]⟩, .string ⟨#[45, 45, 62]⟩, .string ⟨#[65, 98, 67]⟩, .string ⟨#[75]⟩] 9)) := (Below.refl _ _).alloc (Nat.le_refl _) _
  have hk0 := Blk.new w 9 #[.string ⟨#[]⟩, .string ⟨#[97]⟩, .string ⟨#[60, 97, 32, 98, 47, 62]⟩, .string ⟨#[32, 9, 10, 12, 13, 32, 120]⟩, .string ⟨#[97, 97, 97, 98]⟩, .string ⟨#[45, 45, 62]⟩, .string ⟨#[65, 98, 67]⟩, .string ⟨#[75]⟩] (0, 0)
  have hs0 := short_of #[.string ⟨#[]⟩, .string ⟨#[97]⟩, .string ⟨#[60, 97, 32, 98, 47, 62]⟩, .string ⟨#[32, 9, 10, 12, 13, 32, 120]⟩, .string ⟨#[97, 97, 97, 98]⟩, .string ⟨#[45, 45, 62]⟩, .string ⟨#[65, 98, 67]⟩, .string ⟨#[75]⟩] [⟨#[]⟩, ⟨#[97]⟩, ⟨#[60, 97, 32, 98, 47, 62]⟩, ⟨#[32, 9, 10, 12, 13, 32, 120]⟩, ⟨#[97, 97, 97, 98]⟩, ⟨#[45, 45, 62]⟩, ⟨#[65, 98, 67]⟩, ⟨#[75]⟩] rfl (by decide)
  generalize w.alloc _ = wa at *
  generalize (#[.string ⟨#[]⟩, .string ⟨#[97]⟩, .string ⟨#[60, 97, 32, 98, 47, 62]⟩, .string ⟨#[32, 9, 10, 12, 13, 32, 120]⟩, .string ⟨#[97, 97, 97, 98]⟩, .string ⟨#[45, 45, 62]⟩, .string ⟨#[65, 98, 67]⟩, .string ⟨#[75]⟩] : Array Value) = C at *
  have HS0 := Lib.hid hs0
  clear hs0
  have hL0 := hL.below hb0
  go_loopw [0, 2, 3, 5, 8] (fun _ _ _ _ i wr => ∃ q : Nat, q ≤ 8 ∧ i = .int .i64 q ∧ Below w.heap.size w wr ∧ Blk wr w.heap.size 9 C (0, 0) ∧ Lax wr) (fun _ _ _ _ i _ => 8 - (intOf i).toNat)
  case atStart => exact ⟨0, by omega, rfl, hb0, hk0, hL0⟩
  case round =>
    obtain ⟨q, hq, rfl, hb, hk, hL1⟩ := hrel
    have HB := Lib.hid hb
    have HK := Lib.hid hk
    clear hb hk hb0 hk0 hL0
    by_cases hlt : q < 8
    · obtain ⟨s, hs, hcell0⟩ := HS0.out q hlt
      have hcell := (HK.out.cell q).trans hcell0
      clear hcell0
      have hd : decide ((q : Int) < 8) = true := decide_eq_true (by omega)
      go_wp2_with fail
      obtain ⟨wo, rfl⟩ : ∃ wo : World, wo = wr := ⟨_, rfl⟩
      clear hcell
      go_loopw [0, 3, 5] (fun _ i _ wr => ∃ a : Int, -2 ≤ a ∧ a ≤ s.size + 3 ∧ i = .int .i64 a ∧ Below wo.heap.size wo wr) (fun _ i _ _ => (s.size + 3 - intOf i).toNat)
      case atStart => exact ⟨-2, by omega, by omega, rfl, Below.refl _ _⟩
      case round =>
        obtain ⟨a, ha1, ha2, rfl, hb⟩ := hrel
        have HB2 := Lib.hid hb
        clear hb
        by_cases halt : a < s.size + 3
        · go_wp2_with fail
          have hb3 : Below wr.heap.size wr (wr.alloc (.cells #[.string ⟨#[]⟩, .string ⟨#[97]⟩, .string ⟨#[97, 98]⟩, .string ⟨#[66]⟩, .string ⟨#[45, 45, 62]⟩, .string ⟨#[62]⟩, .string ⟨#[97, 98, 99]⟩, .string ⟨#[32]⟩] 9)) := (Below.refl _ _).alloc (Nat.le_refl _) _
          have hk3 := Blk.new wr 9 #[.string ⟨#[]⟩, .string ⟨#[97]⟩, .string ⟨#[97, 98]⟩, .string ⟨#[66]⟩, .string ⟨#[45, 45, 62]⟩, .string ⟨#[62]⟩, .string ⟨#[97, 98, 99]⟩, .string ⟨#[32]⟩] (0, 0)
          have hs3 := short_of #[.string ⟨#[]⟩, .string ⟨#[97]⟩, .string ⟨#[97, 98]⟩, .string ⟨#[66]⟩, .string ⟨#[45, 45, 62]⟩, .string ⟨#[62]⟩, .string ⟨#[97, 98, 99]⟩, .string ⟨#[32]⟩] [⟨#[]⟩, ⟨#[97]⟩, ⟨#[97, 98]⟩, ⟨#[66]⟩, ⟨#[45, 45, 62]⟩, ⟨#[62]⟩, ⟨#[97, 98, 99]⟩, ⟨#[32]⟩] rfl (by decide)
          generalize wr.alloc _ = wb at *
          generalize (#[.string ⟨#[]⟩, .string ⟨#[97]⟩, .string ⟨#[97, 98]⟩, .string ⟨#[66]⟩, .string ⟨#[45, 45, 62]⟩, .string ⟨#[62]⟩, .string ⟨#[97, 98, 99]⟩, .string ⟨#[32]⟩] : Array Value) = D at *
          have HS3 := Lib.hid hs3
          clear hs3
          have hL3 := (hL1.below HB2.out).below hb3
          obtain ⟨wi, rfl⟩ : ∃ wi : World, wi = wr := ⟨_, rfl⟩
          go_loopw [0, 5, 21] (fun _ _ i wr => ∃ p : Nat, p ≤ 8 ∧ i = .int .i64 p ∧ Below wi.heap.size wi wr ∧ Blk wr wi.heap.size 9 D (0, 0) ∧ Lax wr) (fun _ _ i _ => 8 - (intOf i).toNat)
          case atStart => exact ⟨0, by omega, rfl, hb3, hk3, hL3⟩
          case round =>
            obtain ⟨p, hp, rfl, hb4, hk4, hL4⟩ := hrel
            have HB4 := Lib.hid hb4
            have HK4 := Lib.hid hk4
            clear hb4 hk4 hb3 hk3 hL3
            by_cases hplt : p < 8
            · obtain ⟨t, ht, hcell1⟩ := HS3.out p hplt
              have hcell2 := (HK4.out.cell p).trans hcell1
              clear hcell1
              go_wp2_with fail
              refine (lsame_any _ _ _ _ hL4 (by omega) (by omega)).mono ?_
              rintro e w1 ⟨rfl, hb5⟩
              clear hcell2
              go_wp2_with fail
              exact ⟨⟨p + 1, by omega, by go_num, below_then HB4.out HB4.out.size hb5, HK4.out.keep hb5, hL4.below hb5⟩, by simp [intOf]; omega⟩
            · go_wp2_with fail
              exact ⟨⟨a + 1, by omega, by omega, rfl, below_then HB2.out HB2.out.size HB4.out⟩, by simp [intOf]; omega⟩
        · go_wp2_with fail
          exact ⟨⟨q + 1, by omega, by go_num, below_then HB.out HB.out.size HB2.out, HK.out.keep HB2.out, hL1.below HB2.out⟩, by simp [intOf]; omega⟩
    · go_wp2_with fail
      refine (lsame_any _ _ _ _ hL1 (by decide) (by decide)).mono ?_
      rintro e w1 ⟨rfl, hb1⟩
      go_wp2_with fail
      refine (lsame_any _ _ _ _ (hL1.below hb1) (by decide) (by decide)).mono ?_
      rintro e w2 ⟨rfl, hb2⟩
      go_wp2_with fail
      refine (known_any _ ((hL1.below hb1).below hb2)).mono ?_
      rintro e w3 ⟨rfl, hb3⟩
      go_wp2_with fail
      go_ret
      exact ⟨rfl, below_then (below_then (below_then HB.out HB.out.size hb1) (below_then HB.out HB.out.size hb1).size hb2) (below_then (below_then HB.out HB.out.size hb1) (below_then HB.out HB.out.size hb1).size hb2).size hb3⟩
end Go.Proofs.Ytafinbcmelpieaa
