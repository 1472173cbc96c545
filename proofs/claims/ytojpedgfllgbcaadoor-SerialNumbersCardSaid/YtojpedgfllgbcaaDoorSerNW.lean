/- SerialNumbers walked. -/
import Derived.Test.YtojpedgfllgbcaaDoorSerO
import Derived.Test.YtojpedgfllgbcaaDoorTrW
import Derived.Test.YtojpedgfllgbcaaDoorMade23
namespace Go.Proofs.YtojpedgfllgbcaaDoor
open Go.RowKit

def numA : List At := [⟨⟨#[97]⟩, ⟨#[60, 34, 38, 194, 160, 62]⟩⟩]
def numNd (a : Nat) (svg : Bool) : Nd := ⟨3, a, 0, svg, ⟨#[]⟩, numA⟩
def numT : Lab := ⟨4, 0, ⟨#[]⟩, [], ⟨#[60, 34, 38, 194, 160, 62]⟩⟩
def numC : Lab := ⟨5, 0, ⟨#[]⟩, [], ⟨#[45, 45, 62]⟩⟩
def numD : Lab := ⟨2, 0, ⟨#[104, 116, 109, 108]⟩, [], ⟨#[]⟩⟩
theorem info_tree : (Tryd.prog.info? 25).map (fun i => (i.zero, i.size, i.bytes)) = some (some (.agg #[.int .i64 0, .int .i64 0, .string ⟨#[]⟩, .slice none 0 0, .string ⟨#[]⟩, .slice none 0 0] : Value), 6, 96) := by kernel_rfl
theorem num_made (a : Nat) (svg : Bool) : madeT (numNd a svg) false = (elemL (numNd a svg), elemK (numNd a svg)) := by
  unfold madeT
  have hk : kindK (numNd a svg) = 3 := by show (withinI 3 0 1000).toNat % 5 = 3; decide +kernel
  rw [hk, if_neg (by decide), if_neg (by simp)]
theorem num_w (a : Nat) (svg : Bool) : wl (elemL (numNd a svg)) + wF (Fo.ofL ((elemK (numNd a svg)).toL ++ [(numT, .nil), (numC, .nil)])) ≤ 1000 := by
  have h1 : (nameAt (numNd a svg).n).size ≤ 13 := by
    have := nameAt_in (numNd a svg).n
    revert this
    generalize nameAt (numNd a svg).n = x
    intro h
    exact (by decide : ∀ x ∈ namesN, x.size ≤ 13) x h
  have h2 : wl (elemL (numNd a svg)) = 40 + 2 * (nameAt (numNd a svg).n).size + 6 * 0 + wA (uniqA (shortA numA)) := rfl
  have h3 : wA (uniqA (shortA numA)) = 47 := by decide +kernel
  have h4 : wF (Fo.ofL ((elemK (numNd a svg)).toL ++ [(numT, .nil), (numC, .nil)])) ≤ 40 + 76 + 58 := by
    unfold elemK
    split
    · decide +kernel
    · decide +kernel
  omega
theorem num_esc1 : S (escT true (B ⟨#[60, 34, 38, 194, 160, 62]⟩)) = ⟨#[60, 38, 113, 117, 111, 116, 59, 38, 97, 109, 112, 59, 38, 110, 98, 115, 112, 59, 62]⟩ := by decide +kernel
theorem num_esc2 : S (escT false (B ⟨#[60, 34, 38, 194, 160, 62]⟩)) = ⟨#[38, 108, 116, 59, 34, 38, 97, 109, 112, 59, 38, 110, 98, 115, 112, 59, 38, 103, 116, 59]⟩ := by decide +kernel
def zeroL : Lab := ⟨0, 0, ⟨#[]⟩, [], ⟨#[]⟩⟩
theorem num_zero : S (innerF false zeroL .nil) = ⟨#[]⟩ := by decide +kernel

set_option maxHeartbeats 2000000 in
set_option maxRecDepth 100000 in
theorem walk_SerialNumbers (w : World) (hT : Tabs w) :
    Calls Tryd.prog 6 #[] w fun e w' => e = .returned (.bool true) ∧ Below w.heap.size w w' := by
  have HT := Lib.hid hT
  clear hT
  go_enter Tryd.func6, Tryd.ntmps6
  go_wp2_with fail
  go_loopw [1] (fun iv wr => ∃ a : Nat, a ≤ 48 ∧ iv = .int .i64 a ∧ Below w.heap.size w wr) (fun iv _ => 48 - (intOf iv).toNat)
  case atStart => exact ⟨0, Nat.zero_le _, rfl, Below.refl _ _⟩
  case round =>
    obtain ⟨a, ha, rfl, hb⟩ := hrel
    have HB := Lib.hid hb
    clear hb
    by_cases hlt : a < 48
    · have d0 : decide ((a : Int) < 48) = true := decide_eq_true (by omega)
      have i1 : IntKind.i64.wrap ((a : Int) + 1) = (a : Int) + 1 := IntWalk.i64_in _ (by omega)
      obtain ⟨wo, rfl⟩ : ∃ wo : World, wo = wr := ⟨_, rfl⟩
      go_wp2_with fail
      go_loopw [2] (fun iv wr => ∃ b : Nat, b ≤ 2 ∧ iv = .int .i64 b ∧ Below w.heap.size w wr) (fun iv _ => 2 - (intOf iv).toNat)
      case atStart => exact ⟨0, Nat.zero_le _, rfl, HB.out⟩
      case round =>
        obtain ⟨b, hb2, rfl, hb⟩ := hrel
        have HBI := Lib.hid hb
        clear hb
        by_cases hb3 : b = 2
        · subst hb3
          have d1 : decide (((2 : Nat) : Int) < 2) = false := by decide
          go_wp2_with fail
          exact ⟨⟨a + 1, by omega, by go_num, HBI.out⟩, by simp [intOf]; omega⟩
        · obtain ⟨svg, hsv⟩ : ∃ svg, ((b : Int) == 1) = svg := ⟨_, rfl⟩
          have d1 : decide ((b : Int) < 2) = true := decide_eq_true (by omega)
          have i2 : IntKind.i64.wrap ((b : Int) + 1) = (b : Int) + 1 := IntWalk.i64_in _ (by omega)
          have hAB : Blk (wr.alloc (.cells #[.string ⟨#[97]⟩, .string ⟨#[60, 34, 38, 194, 160, 62]⟩] 40)) wr.heap.size 40 #[.string ⟨#[97]⟩, .string ⟨#[60, 34, 38, 194, 160, 62]⟩] (0, 0) := Blk.new wr _ _ _
          have hnd : NdOk (wr.alloc (.cells #[.string ⟨#[97]⟩, .string ⟨#[60, 34, 38, 194, 160, 62]⟩] 40)) (numNd a svg) (some ⟨wr.heap.size, 0, none⟩) := by
            refine ⟨⟨rfl, ?_⟩, ?_, (show (1 : Nat) ≤ 9223372036854775807 by decide), (show (0 : Nat) ≤ 9223372036854775807 by decide)⟩
            · refine ⟨rfl, row_one encOk_at _, fun _ => ⟨_, rfl, fun j u hu => ?_⟩⟩
              rw [add0, hAB.cell j]
              rw [← List.getElem?_toArray] at hu
              exact hu
            · intro x hx
              have : x = ⟨⟨#[97]⟩, ⟨#[60, 34, 38, 194, 160, 62]⟩⟩ := by simpa [numNd, numA] using hx
              subst this
              exact ⟨by decide, by decide⟩
          have HM : Hid (Calls Tryd.prog 20 #[.agg #[.int .i64 3, .int .i64 (a : Int), .int .i64 0, .bool svg, .string ⟨#[]⟩, .slice (some ⟨wr.heap.size, 0, none⟩) 1 1], .bool false] (wr.alloc (.cells #[.string ⟨#[97]⟩, .string ⟨#[60, 34, 38, 194, 160, 62]⟩] 40)) fun e w' => ∃ q, e = .returned (valP (elemL (numNd a svg)) (elemK (numNd a svg)).len q) ∧ PartsOk w' (elemL (numNd a svg)) (elemK (numNd a svg)) q ∧ FitK q (elemK (numNd a svg)) ∧ Below (wr.alloc (.cells #[.string ⟨#[97]⟩, .string ⟨#[60, 34, 38, 194, 160, 62]⟩] 40)).heap.size (wr.alloc (.cells #[.string ⟨#[97]⟩, .string ⟨#[60, 34, 38, 194, 160, 62]⟩] 40)) w') := by
            have h := made23_any _ (numNd a svg) (some ⟨wr.heap.size, 0, none⟩) 1 false hnd
            rw [num_made] at h
            exact h
          have hw := num_w a svg
          obtain ⟨l, hl⟩ : ∃ l, elemL (numNd a svg) = l := ⟨_, rfl⟩
          obtain ⟨k, hk⟩ : ∃ k, elemK (numNd a svg) = k := ⟨_, rfl⟩
          rw [hl, hk] at HM hw
          have HW := Lib.hid hw
          clear hw hl hk hnd hAB
          unfold valP at HM
          go_upto_region 8 with (first
            | (go_at_call 20
               with_reducible refine HM.out.mono ?_
               rintro e w2 ⟨q, rfl, hpo, hfit, hb2⟩
               have HPO := Lib.hid hpo
               have HFIT := Lib.hid hfit
               have HB2 := Lib.hid (HBI.out.trans ((below_both ((Below.refl _ _).alloc (Nat.le_refl _) (.cells #[.string ⟨#[97]⟩, .string ⟨#[60, 34, 38, 194, 160, 62]⟩] 40)) hb2).mono HBI.out.size))
               clear hpo hfit hb2))
          obtain ⟨i0, hi0, hz0, hz1, hz2⟩ := info_parts info_tree
          have hkl := len_wF k
          have hk2 : k.len ≤ 1000 := by
            have h := HW.out
            have h2 := wF_take ((k.toL) ++ [(numT, Fo.nil), (numC, Fo.nil)]) k.toL.length
            rw [List.take_left', Fo.of_to] at h2
            · omega
            · rfl
          have hbA : Below w2.heap.size w2 ((w2.alloc (.cells #[.int .i64 l.kind, .int .i64 l.ns, .string l.name, .slice q.A l.attrs.length q.c, .string l.text, .slice q.K k.len q.d] 25)).alloc (.cells #[.int .i64 4, .int .i64 0, .string ⟨#[]⟩, .slice none 0 0, .string ⟨#[60, 34, 38, 194, 160, 62]⟩, .slice none 0 0, .int .i64 5, .int .i64 0, .string ⟨#[]⟩, .slice none 0 0, .string ⟨#[45, 45, 62]⟩, .slice none 0 0] 25)) := ((Below.refl _ _).alloc (Nat.le_refl _) _).alloc (by simp) _
          have hnb : Blk ((w2.alloc (.cells #[.int .i64 l.kind, .int .i64 l.ns, .string l.name, .slice q.A l.attrs.length q.c, .string l.text, .slice q.K k.len q.d] 25)).alloc (.cells #[.int .i64 4, .int .i64 0, .string ⟨#[]⟩, .slice none 0 0, .string ⟨#[60, 34, 38, 194, 160, 62]⟩, .slice none 0 0, .int .i64 5, .int .i64 0, .string ⟨#[]⟩, .slice none 0 0, .string ⟨#[45, 45, 62]⟩, .slice none 0 0] 25)) (w2.heap.size + 1) 25 #[.int .i64 4, .int .i64 0, .string ⟨#[]⟩, .slice none 0 0, .string ⟨#[60, 34, 38, 194, 160, 62]⟩, .slice none 0 0, .int .i64 5, .int .i64 0, .string ⟨#[]⟩, .slice none 0 0, .string ⟨#[45, 45, 62]⟩, .slice none 0 0] (0, 0) := by
            have := Blk.new (w2.alloc (.cells #[.int .i64 l.kind, .int .i64 l.ns, .string l.name, .slice q.A l.attrs.length q.c, .string l.text, .slice q.K k.len q.d] 25)) 25 #[.int .i64 4, .int .i64 0, .string ⟨#[]⟩, .slice none 0 0, .string ⟨#[60, 34, 38, 194, 160, 62]⟩, .slice none 0 0, .int .i64 5, .int .i64 0, .string ⟨#[]⟩, .slice none 0 0, .string ⟨#[45, 45, 62]⟩, .slice none 0 0] (0, 0)
            simpa using this
          have hx4 : Blk ((w2.alloc (.cells #[.int .i64 l.kind, .int .i64 l.ns, .string l.name, .slice q.A l.attrs.length q.c, .string l.text, .slice q.K k.len q.d] 25)).alloc (.cells #[.int .i64 4, .int .i64 0, .string ⟨#[]⟩, .slice none 0 0, .string ⟨#[60, 34, 38, 194, 160, 62]⟩, .slice none 0 0, .int .i64 5, .int .i64 0, .string ⟨#[]⟩, .slice none 0 0, .string ⟨#[45, 45, 62]⟩, .slice none 0 0] 25)) w2.heap.size 25 #[.int .i64 l.kind, .int .i64 l.ns, .string l.name, .slice q.A l.attrs.length q.c, .string l.text, .slice q.K k.len q.d] (0, 0) := (Blk.new w2 _ _ _).alloc _
          have hcn : ∀ w : World, Cells w (Fo.ofL [(numT, .nil), (numC, .nil)]) (#[.int .i64 4, .int .i64 0, .string ⟨#[]⟩, .slice none 0 0, .string ⟨#[60, 34, 38, 194, 160, 62]⟩, .slice none 0 0, .int .i64 5, .int .i64 0, .string ⟨#[]⟩, .slice none 0 0, .string ⟨#[45, 45, 62]⟩, .slice none 0 0]).toList := fun w =>
            Cells.cons_iff.2 ⟨⟨none, 0, none, 0⟩, _, rfl, ⟨RdA.nil' _, RdF.nil _ _ _ (Nat.zero_le _)⟩, Cells.cons_iff.2 ⟨⟨none, 0, none, 0⟩, [], rfl, ⟨RdA.nil' _, RdF.nil _ _ _ (Nat.zero_le _)⟩, rfl⟩⟩
          have hrd : Rd ((w2.alloc (.cells #[.int .i64 l.kind, .int .i64 l.ns, .string l.name, .slice q.A l.attrs.length q.c, .string l.text, .slice q.K k.len q.d] 25)).alloc (.cells #[.int .i64 4, .int .i64 0, .string ⟨#[]⟩, .slice none 0 0, .string ⟨#[60, 34, 38, 194, 160, 62]⟩, .slice none 0 0, .int .i64 5, .int .i64 0, .string ⟨#[]⟩, .slice none 0 0, .string ⟨#[45, 45, 62]⟩, .slice none 0 0] 25)) (some ⟨w2.heap.size + 1, 0, none⟩) 2 6 (#[.int .i64 4, .int .i64 0, .string ⟨#[]⟩, .slice none 0 0, .string ⟨#[60, 34, 38, 194, 160, 62]⟩, .slice none 0 0, .int .i64 5, .int .i64 0, .string ⟨#[]⟩, .slice none 0 0, .string ⟨#[45, 45, 62]⟩, .slice none 0 0]).toList := ⟨rfl, (hcn w2).one, fun _ => ⟨_, rfl, fun j u hu => by rw [add0, hnb.cell j]; rw [← Array.getElem?_toList]; exact hu⟩⟩
          obtain ⟨K, d, w5, ys, hrun, hown, hcy, hb5⟩ := run_append_fit0 (P := Tryd.prog) w2 ((w2.alloc (.cells #[.int .i64 l.kind, .int .i64 l.ns, .string l.name, .slice q.A l.attrs.length q.c, .string l.text, .slice q.K k.len q.d] 25)).alloc (.cells #[.int .i64 4, .int .i64 0, .string ⟨#[]⟩, .slice none 0 0, .string ⟨#[60, 34, 38, 194, 160, 62]⟩, .slice none 0 0, .int .i64 5, .int .i64 0, .string ⟨#[]⟩, .slice none 0 0, .string ⟨#[45, 45, 62]⟩, .slice none 0 0] 25)) 23 23 25 i0 _ 96 Tryd.underlying23 hi0 hz0 hz1 hz2 rfl q k HPO.out.2 (sub_of_below hbA) HFIT.out ⟨w2.heap.size + 1, 0, none⟩ 2 [(numT, .nil), (numC, .nil)] _ hrd (hcn w2) (by decide)
            (show (k.len + 2) * 96 ≤ 140737488355328 by omega) (show k.len + 2 ≤ maxLen by simp only [maxLen]; omega)
          have hlen2 : (Fo.ofL (k.toL ++ [(numT, Fo.nil), (numC, Fo.nil)])).len = k.len + 2 := by rw [Fo.len_of, List.length_append]; rfl
          obtain ⟨k2, hk2e⟩ : ∃ k2, Fo.ofL (k.toL ++ [(numT, Fo.nil), (numC, Fo.nil)]) = k2 := ⟨_, rfl⟩
          rw [hk2e] at hcy hlen2
          have HW2 := HW.out
          rw [hk2e] at HW2
          have hx5 := hx4.keep hb5
          have hb25 : Below w2.heap.size w2 w5 := hbA.trans (hb5.mono hbA.size)
          have hb26 : Below w2.heap.size w2 (w5.setCell ⟨w2.heap.size, 5, none⟩ (.slice K (k.len + 2) d)) := hb25.setCell (p := ⟨w2.heap.size, 5, none⟩) (Nat.le_refl _) _
          have hx6 : Blk (w5.setCell ⟨w2.heap.size, 5, none⟩ (.slice K (k.len + 2) d)) w2.heap.size 25 #[.int .i64 l.kind, .int .i64 l.ns, .string l.name, .slice q.A l.attrs.length q.c, .string l.text, (.slice K (k.len + 2) d)] (0, 0) := by
            have := hx5.set 5 (.slice K (k.len + 2) d)
            simpa using this
          have hrf : RdF (w5.setCell ⟨w2.heap.size, 5, none⟩ (.slice K (k.len + 2) d)) K d k2 := rdF_own (n := k.len + 2) (owns_but hown ((But.refl (fun x => x = w2.heap.size) w5).setCell ⟨w2.heap.size, 5, none⟩ _ (.inl rfl)) (fun g hg e => by have := (hown.lt g hg).1; simp at this; omega)) (hcy.keep hb26) hlen2
          have hp6 : PartsOk (w5.setCell ⟨w2.heap.size, 5, none⟩ (.slice K (k.len + 2) d)) l k2 ⟨q.A, q.c, K, d⟩ := ⟨HPO.out.1.keep hb26, hrf⟩
          have hsz6 : (w5.setCell ⟨w2.heap.size, 5, none⟩ (.slice K (k.len + 2) d)).heap.size = w5.heap.size := by simp [World.setCell]
          have hb7 : Below (w5.setCell ⟨w2.heap.size, 5, none⟩ (.slice K (k.len + 2) d)).heap.size (w5.setCell ⟨w2.heap.size, 5, none⟩ (.slice K (k.len + 2) d)) ((w5.setCell ⟨w2.heap.size, 5, none⟩ (.slice K (k.len + 2) d)).alloc (.cells #[.int .i64 2, .int .i64 0, .string ⟨#[104, 116, 109, 108]⟩, .slice none 0 0, .string ⟨#[]⟩, .slice none 0 0, .int .i64 l.kind, .int .i64 l.ns, .string l.name, .slice q.A l.attrs.length q.c, .string l.text, .slice K (k.len + 2) d] 25)) := (Below.refl _ _).alloc (Nat.le_refl _) _
          have hbw7 : Below w.heap.size w ((w5.setCell ⟨w2.heap.size, 5, none⟩ (.slice K (k.len + 2) d)).alloc (.cells #[.int .i64 2, .int .i64 0, .string ⟨#[104, 116, 109, 108]⟩, .slice none 0 0, .string ⟨#[]⟩, .slice none 0 0, .int .i64 l.kind, .int .i64 l.ns, .string l.name, .slice q.A l.attrs.length q.c, .string l.text, .slice K (k.len + 2) d] 25)) := (HB2.out.trans (hb26.mono HB2.out.size)).trans (hb7.mono (Nat.le_trans HB2.out.size hb26.size))
          have hp7 : PartsOk ((w5.setCell ⟨w2.heap.size, 5, none⟩ (.slice K (k.len + 2) d)).alloc (.cells #[.int .i64 2, .int .i64 0, .string ⟨#[104, 116, 109, 108]⟩, .slice none 0 0, .string ⟨#[]⟩, .slice none 0 0, .int .i64 l.kind, .int .i64 l.ns, .string l.name, .slice q.A l.attrs.length q.c, .string l.text, .slice K (k.len + 2) d] 25)) l k2 ⟨q.A, q.c, K, d⟩ := hp6.keep hb7
          have hblk7 := Blk.new (w5.setCell ⟨w2.heap.size, 5, none⟩ (.slice K (k.len + 2) d)) 25 #[.int .i64 2, .int .i64 0, .string ⟨#[104, 116, 109, 108]⟩, .slice none 0 0, .string ⟨#[]⟩, .slice none 0 0, .int .i64 l.kind, .int .i64 l.ns, .string l.name, .slice q.A l.attrs.length q.c, .string l.text, .slice K (k.len + 2) d] (0, 0)
          rw [hsz6] at hblk7
          have hrp : PartsOk ((w5.setCell ⟨w2.heap.size, 5, none⟩ (.slice K (k.len + 2) d)).alloc (.cells #[.int .i64 2, .int .i64 0, .string ⟨#[104, 116, 109, 108]⟩, .slice none 0 0, .string ⟨#[]⟩, .slice none 0 0, .int .i64 l.kind, .int .i64 l.ns, .string l.name, .slice q.A l.attrs.length q.c, .string l.text, .slice K (k.len + 2) d] 25)) rootL (.cons numD .nil (.cons l k2 .nil)) ⟨none, 0, some ⟨w5.heap.size, 0, none⟩, 2⟩ :=
            ⟨RdA.nil' _, rdF_block (xs := (#[.int .i64 2, .int .i64 0, .string ⟨#[104, 116, 109, 108]⟩, .slice none 0 0, .string ⟨#[]⟩, .slice none 0 0, .int .i64 l.kind, .int .i64 l.ns, .string l.name, .slice q.A l.attrs.length q.c, .string l.text, .slice K (k.len + 2) d]).toList) hblk7 (Cells.cons_iff.2 ⟨⟨none, 0, none, 0⟩, _, rfl, ⟨RdA.nil' _, RdF.nil _ _ _ (Nat.zero_le _)⟩, Cells.cons_iff.2 ⟨⟨q.A, q.c, K, d⟩, [], by rw [hlen2]; rfl, hp7, rfl⟩⟩) (Nat.le_refl 2) (show (2 : Nat) ≤ maxLen by decide)⟩
          have hws : wl rootL + wF (.cons numD .nil (.cons l k2 .nil)) ≤ 240000 := by
            show 40 + ((40 + 2 * 4 + 6 * 0 + 0) + 0 + (wl l + wF k2 + 0)) ≤ _
            omega
          have HS1 : Hid (Calls Tryd.prog 21 #[.agg #[.int .i64 1, .int .i64 0, .string ⟨#[]⟩, .slice none 0 0, .string ⟨#[]⟩, .slice (some ⟨w5.heap.size, 0, none⟩) 2 2]] ((w5.setCell ⟨w2.heap.size, 5, none⟩ (.slice K (k.len + 2) d)).alloc (.cells #[.int .i64 2, .int .i64 0, .string ⟨#[104, 116, 109, 108]⟩, .slice none 0 0, .string ⟨#[]⟩, .slice none 0 0, .int .i64 l.kind, .int .i64 l.ns, .string l.name, .slice q.A l.attrs.length q.c, .string l.text, .slice K (k.len + 2) d] 25)) fun e w' => e = .returned (.bool true) ∧ Below ((w5.setCell ⟨w2.heap.size, 5, none⟩ (.slice K (k.len + 2) d)).alloc (.cells #[.int .i64 2, .int .i64 0, .string ⟨#[104, 116, 109, 108]⟩, .slice none 0 0, .string ⟨#[]⟩, .slice none 0 0, .int .i64 l.kind, .int .i64 l.ns, .string l.name, .slice q.A l.attrs.length q.c, .string l.text, .slice K (k.len + 2) d] 25)).heap.size ((w5.setCell ⟨w2.heap.size, 5, none⟩ (.slice K (k.len + 2) d)).alloc (.cells #[.int .i64 2, .int .i64 0, .string ⟨#[104, 116, 109, 108]⟩, .slice none 0 0, .string ⟨#[]⟩, .slice none 0 0, .int .i64 l.kind, .int .i64 l.ns, .string l.name, .slice q.A l.attrs.length q.c, .string l.text, .slice K (k.len + 2) d] 25)) w') := by
            have h := same_tree ((w5.setCell ⟨w2.heap.size, 5, none⟩ (.slice K (k.len + 2) d)).alloc (.cells #[.int .i64 2, .int .i64 0, .string ⟨#[104, 116, 109, 108]⟩, .slice none 0 0, .string ⟨#[]⟩, .slice none 0 0, .int .i64 l.kind, .int .i64 l.ns, .string l.name, .slice q.A l.attrs.length q.c, .string l.text, .slice K (k.len + 2) d] 25)) rootL (.cons numD .nil (.cons l k2 .nil)) ⟨none, 0, some ⟨w5.heap.size, 0, none⟩, 2⟩ hrp hws (HT.out.keep hbw7)
            have e : valP rootL (Fo.cons numD .nil (.cons l k2 .nil)).len ⟨none, 0, some ⟨w5.heap.size, 0, none⟩, 2⟩ = .agg #[.int .i64 1, .int .i64 0, .string ⟨#[]⟩, .slice none 0 0, .string ⟨#[]⟩, .slice (some ⟨w5.heap.size, 0, none⟩) 2 2] := rfl
            rw [e] at h
            exact h
          have HS2 : Hid (∀ W, Below ((w5.setCell ⟨w2.heap.size, 5, none⟩ (.slice K (k.len + 2) d)).alloc (.cells #[.int .i64 2, .int .i64 0, .string ⟨#[104, 116, 109, 108]⟩, .slice none 0 0, .string ⟨#[]⟩, .slice none 0 0, .int .i64 l.kind, .int .i64 l.ns, .string l.name, .slice q.A l.attrs.length q.c, .string l.text, .slice K (k.len + 2) d] 25)).heap.size ((w5.setCell ⟨w2.heap.size, 5, none⟩ (.slice K (k.len + 2) d)).alloc (.cells #[.int .i64 2, .int .i64 0, .string ⟨#[104, 116, 109, 108]⟩, .slice none 0 0, .string ⟨#[]⟩, .slice none 0 0, .int .i64 l.kind, .int .i64 l.ns, .string l.name, .slice q.A l.attrs.length q.c, .string l.text, .slice K (k.len + 2) d] 25)) W → Calls Tryd.prog 21 #[.agg #[.int .i64 l.kind, .int .i64 l.ns, .string l.name, .slice q.A l.attrs.length q.c, .string l.text, .slice K (k.len + 2) d]] W fun e w' => e = .returned (.bool true) ∧ Below W.heap.size W w') := fun W hb => by
            have h := same_tree W l k2 ⟨q.A, q.c, K, d⟩ (hp7.keep hb) (by omega) (HT.out.keep (hbw7.trans (hb.mono hbw7.size)))
            unfold valP at h
            rw [hlen2] at h
            exact h
          have HY : Hid (∀ W, Below ((w5.setCell ⟨w2.heap.size, 5, none⟩ (.slice K (k.len + 2) d)).alloc (.cells #[.int .i64 2, .int .i64 0, .string ⟨#[104, 116, 109, 108]⟩, .slice none 0 0, .string ⟨#[]⟩, .slice none 0 0, .int .i64 l.kind, .int .i64 l.ns, .string l.name, .slice q.A l.attrs.length q.c, .string l.text, .slice K (k.len + 2) d] 25)).heap.size ((w5.setCell ⟨w2.heap.size, 5, none⟩ (.slice K (k.len + 2) d)).alloc (.cells #[.int .i64 2, .int .i64 0, .string ⟨#[104, 116, 109, 108]⟩, .slice none 0 0, .string ⟨#[]⟩, .slice none 0 0, .int .i64 l.kind, .int .i64 l.ns, .string l.name, .slice q.A l.attrs.length q.c, .string l.text, .slice K (k.len + 2) d] 25)) W → W.cell? ⟨w2.heap.size, 0, none⟩ = some (.int .i64 l.kind) ∧ W.cell? ⟨w2.heap.size, 1, none⟩ = some (.int .i64 l.ns) ∧ W.cell? ⟨w2.heap.size, 2, none⟩ = some (.string l.name) ∧ W.cell? ⟨w2.heap.size, 3, none⟩ = some (.slice q.A l.attrs.length q.c) ∧ W.cell? ⟨w2.heap.size, 4, none⟩ = some (.string l.text) ∧ W.cell? ⟨w2.heap.size, 5, none⟩ = some (.slice K (k.len + 2) d)) := fun W hb => by
            have h := (hx6.keep hb7).keep hb
            exact ⟨h.cell 0, h.cell 1, h.cell 2, h.cell 3, h.cell 4, h.cell 5⟩
          have HB7 := Lib.hid hbw7
          have z0 : w5.cell? ⟨w2.heap.size, 0, none⟩ = some (.int .i64 l.kind) := hx5.cell 0
          have z1 : w5.cell? ⟨w2.heap.size, 1, none⟩ = some (.int .i64 l.ns) := hx5.cell 1
          have z2 : w5.cell? ⟨w2.heap.size, 2, none⟩ = some (.string l.name) := hx5.cell 2
          have z3 : w5.cell? ⟨w2.heap.size, 3, none⟩ = some (.slice q.A l.attrs.length q.c) := hx5.cell 3
          have z4 : w5.cell? ⟨w2.heap.size, 4, none⟩ = some (.string l.text) := hx5.cell 4
          have z5 : w5.cell? ⟨w2.heap.size, 5, none⟩ = some (.slice q.K k.len q.d) := hx5.cell 5
          have f5 := hx5.frozen 5 (.inr (Nat.zero_le _))
          have hlt5 : w2.heap.size < w5.heap.size := hx5.lt
          have HRUN := Lib.hid hrun
          clear hi0 hz0 hz1 hz2 hkl hk2 hbA hnb hx4 hcn hrd hrun hown hcy hb5 hlen2 hk2e HW2 hx5 hb25 hb26 hx6 hrf hp6 hsz6 hb7 hbw7 hp7 hblk7 hrp hws
          go_upto_region 9 with (first
            | (at_builtin
               refine Lib.wpList_append_run _ rfl (.tmp 20) (.tmp 23) _ _ rfl _ _ rfl rfl _ _ HRUN.out ?_))
          go_wp2_with (first
            | (go_at_call 21
               with_reducible refine HS1.out.mono ?_
               rintro e w8 ⟨rfl, hb8⟩
               obtain ⟨y0, y1, y2, y3, y4, y5⟩ := HY.out _ hb8
               have HS2' := Lib.hid (HS2.out _ hb8)
               have HB8 := Lib.hid (HB7.out.trans (hb8.mono HB7.out.size))
               clear hb8)
            | (go_at_call 21
               with_reducible refine HS2'.out.mono ?_
               rintro e w9 ⟨rfl, hb9⟩
               have HB9 := Lib.hid (HB8.out.trans (hb9.mono HB8.out.size))
               clear hb9))
          exact ⟨⟨b + 1, by omega, by go_num, HB9.out⟩, by simp [intOf]; omega⟩
    · have d0 : decide ((a : Int) < 48) = false := decide_eq_false (by omega)
      have HE1 : Hid (Calls Tryd.prog 22 #[.string ⟨#[60, 34, 38, 194, 160, 62]⟩, .bool true] wr fun e w' => e = .returned (.string ⟨#[60, 38, 113, 117, 111, 116, 59, 38, 97, 109, 112, 59, 38, 110, 98, 115, 112, 59, 62]⟩) ∧ Below wr.heap.size wr w') := by
        have h := escape_any ⟨#[60, 34, 38, 194, 160, 62]⟩ true wr (by decide) (HT.out.keep HB.out)
        rw [num_esc1] at h
        exact h
      have HE2 : Hid (∀ W, Below w.heap.size w W → Calls Tryd.prog 22 #[.string ⟨#[60, 34, 38, 194, 160, 62]⟩, .bool false] W fun e w' => e = .returned (.string ⟨#[38, 108, 116, 59, 34, 38, 97, 109, 112, 59, 38, 110, 98, 115, 112, 59, 38, 103, 116, 59]⟩) ∧ Below W.heap.size W w') := fun W hb => by
        have h := escape_any ⟨#[60, 34, 38, 194, 160, 62]⟩ false W (by decide) (HT.out.keep hb)
        rw [num_esc2] at h
        exact h
      have HX : Hid (∀ W, Below w.heap.size w W → Calls Tryd.prog 23 #[.agg #[.int .i64 0, .int .i64 0, .string ⟨#[]⟩, .slice none 0 0, .string ⟨#[]⟩, .slice none 0 0]] W fun e w' => e = .returned (.string ⟨#[]⟩) ∧ Below W.heap.size W w') := fun W hb => by
        have h := text_tree W zeroL .nil ⟨none, 0, none, 0⟩ ⟨RdA.nil' _, RdF.nil _ _ _ (Nat.zero_le _)⟩ (by decide) (HT.out.keep hb)
        rw [num_zero] at h
        exact h
      have HK : Hid (∀ W, Below w.heap.size w W → Calls Tryd.prog 24 #[] W fun e w' => e = .returned (.bool true) ∧ Below W.heap.size W w') := fun W hb => known23_any W (HT.out.keep hb)
      go_wp2_with (first
        | (go_at_call 22
           with_reducible refine HE1.out.mono ?_
           rintro e w2 ⟨rfl, hb2⟩
           have HB2 := Lib.hid (HB.out.trans (hb2.mono HB.out.size))
           clear hb2)
        | (go_at_call 22
           with_reducible refine (HE2.out _ HB2.out).mono ?_
           rintro e w3 ⟨rfl, hb3⟩
           have HB3 := Lib.hid (HB2.out.trans (hb3.mono HB2.out.size))
           clear hb3)
        | (go_at_call 23
           with_reducible refine (HX.out _ HB3.out).mono ?_
           rintro e w4 ⟨rfl, hb4⟩
           have HB4 := Lib.hid (HB3.out.trans (hb4.mono HB3.out.size))
           clear hb4)
        | (go_at_call 24
           with_reducible refine (HK.out _ HB4.out).mono ?_
           rintro e w5 ⟨rfl, hb5⟩))
      go_ret
      exact ⟨rfl, HB4.out.trans (hb5.mono HB4.out.size)⟩
end Go.Proofs.YtojpedgfllgbcaaDoor
