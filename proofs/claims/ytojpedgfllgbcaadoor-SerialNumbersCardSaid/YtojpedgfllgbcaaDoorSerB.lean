/- serial.begin: an element's Start. -/
import Derived.Test.YtojpedgfllgbcaaDoorSerN
import Derived.Test.YtojpedgfllgbcaaDoorBldB
namespace Go.Proofs.YtojpedgfllgbcaaDoor
open Go.RowKit

theorem BdV.of {w w1 : World} {b : Nat} {v v1 : Value} {B0 : Nat} (hf : ∀ g, foot b v g → B0 ≤ g) (hB : B0 ≤ w.heap.size) (hb : But (foot b v) w w1) (hg : Grown w v v1) : (∀ g, foot b v1 g → B0 ≤ g) ∧ Below B0 w w1 :=
  ⟨fun g h => by rcases hg.foot b h with h | h; exact hf g h; omega, hb.below hf hB⟩
theorem attrsL_take {l : List At} {j : Nat} {x : At} (h : l[j]? = some x) : attrsL (l.take (j + 1)) = attrsL (l.take j) ++ attrL x := by
  unfold attrsL
  rw [List.take_add_one, h, List.flatMap_append]
  simp
theorem attrsL_at {l : List At} {j : Nat} {x : At} (h : l[j]? = some x) : x.name.size + 6 * x.val.size ≤ wA l := by
  have hm := List.mem_of_getElem? h
  clear h
  induction l with
  | nil => cases hm
  | cons a t ih =>
    have e2 : wA (a :: t) = (10 + a.name.size + 6 * a.val.size) + wA t := rfl
    rw [e2]
    rcases List.mem_cons.1 hm with rfl | hm
    · omega
    · have := ih hm; omega
theorem wA_len (l : List At) : 10 * l.length ≤ wA l := by
  induction l with
  | nil => simp
  | cons a t ih =>
    simp only [wA, List.map_cons, List.sum_cons, List.length_cons] at ih ⊢
    omega
theorem wA_take (l : List At) (j : Nat) : wA (l.take j) ≤ wA l := by
  induction l generalizing j with
  | nil => simp
  | cons a t ih =>
    cases j with
    | zero => simp [wA]
    | succ j =>
      have := ih j
      rw [List.take_succ_cons]
      simp only [wA, List.map_cons, List.sum_cons] at this ⊢
      omega

set_option maxHeartbeats 2000000 in
set_option maxRecDepth 100000 in
theorem begin_any (w : World) (a : Addr) (l : Lab) (k : Fo) (h : NodeAt w a l k) (hsz : wl l ≤ 240000) (hT : Tabs w) :
    Calls Tryd.prog 68 #[.pointer (some a)] w fun e w' => e = .returned (.string (S (openL l))) ∧ Below w.heap.size w w' := by
  obtain ⟨b, o, sp⟩ := a
  obtain ⟨rfl, q, hq, c0, c1, c2, c3, -, c5⟩ := h.lit
  have hb0 : Below w.heap.size w (w.alloc (.cells #[.pointer none, .slice none 0 0] 88)) := (Below.refl _ _).alloc (Nat.le_refl _) _
  have hBd : BdV (w.alloc (.cells #[.pointer none, .slice none 0 0] 88)) w.heap.size (.slice none 0 0) [] := BdV.new w
  unfold wl at hsz
  have hnm : l.name.size ≤ 240000 := by omega
  have hW1 := Lib.hid (write_but w.heap.size (.slice none 0 0) [] (⟨#[60]⟩ ++ l.name) _ hBd (by
    rw [size_B, B_appR, List.length_append, ← size_B l.name]
    show 0 + (1 + _) ≤ _
    omega))
  have c2' := cell_keep hb0 c2
  have HB0 := Lib.hid hb0
  have HA := Lib.hid hq.1
  have HT := Lib.hid hT
  have HBD := Lib.hid hBd
  have hadd : (⟨#[60]⟩ : ByteArray).size + l.name.size ≤ 9223372036854775807 := by show 1 + _ ≤ _; omega
  have hnl := wA_len l.attrs
  obtain ⟨n, hn⟩ : ∃ n, l.attrs.length = n := ⟨_, rfl⟩
  rw [hn] at hnl
  rw [hn] at c3 HA
  have HN := Lib.hid hn
  clear hb0 hBd hq hT hn h
  obtain ⟨A, hAA⟩ : ∃ A, q.A = A := ⟨_, rfl⟩
  rw [hAA] at c3 HA
  clear hAA
  have hcase : A = none ∧ n = 0 ∨ ∃ ad, A = some ad := by
    cases A with
    | some ad => exact .inr ⟨ad, rfl⟩
    | none =>
      refine .inl ⟨rfl, ?_⟩
      rcases Nat.eq_zero_or_pos n with h0 | h0
      · exact h0
      · obtain ⟨_, e, _⟩ := HA.out.2.2.2 h0; cases e
  rcases hcase with ⟨rfl, hn0⟩ | ⟨ad, rfl⟩
  all_goals
    go_enter Tryd.func68, Tryd.ntmps68
    go_wp2_with fail
    refine hW1.out.mono ?_
    rintro e w1 ⟨v1, rfl, hbd1, hbut1, hgr1⟩
    have hlo : ∀ g, foot w.heap.size (.slice none 0 0) g → w.heap.size ≤ g := fun g hg => by
      rcases hg with rfl | hg
      · exact Nat.le_refl _
      · cases hg
    obtain ⟨hf1, hbl1⟩ := BdV.of hlo HB0.out.size hbut1 hgr1
    have hbw1 := HB0.out.trans hbl1
    have k2 := cell_keep hbw1 c2
    have k3 := cell_keep hbw1 c3
    have HF1 := Lib.hid hf1
    have HBW1 := Lib.hid hbw1
    have HBD1 := Lib.hid hbd1
    clear hf1 hbl1 hbut1 hgr1 hbw1 hbd1 c2'
    go_wp2_with fail
    go_loopw [17] (fun iv wr => ∃ (j : Nat) (v2 : Value), j ≤ n ∧ iv = .int .i64 j ∧ BdV wr w.heap.size v2 ([60] ++ B l.name ++ attrsL (l.attrs.take j)) ∧ Below w.heap.size w wr ∧ (∀ g, foot w.heap.size v2 g → w.heap.size ≤ g)) (fun iv _ => n - (intOf iv).toNat)
    case atStart => exact ⟨0, v1, Nat.zero_le _, rfl, by
      have := HBD1.out
      rw [List.nil_append, B_appR] at this
      rw [show [60] ++ B l.name ++ attrsL (l.attrs.take 0) = B ⟨#[60]⟩ ++ B l.name from List.append_nil _]
      exact this, HBW1.out, HF1.out⟩
    case round =>
      obtain ⟨j, v2, hj, rfl, hbd2, hbw2, hf2⟩ := hrel
      have HBD2 := Lib.hid hbd2
      have HBW2 := Lib.hid hbw2
      have HF2 := Lib.hid hf2
      clear hbd2 hbw2 hf2
      by_cases hlt : j < n
      · first
        | (exfalso; omega)
        | (have d0 : decide ((j : Int) < (n : Int)) = true := decide_eq_true (by omega)
           have i1 : IntKind.i64.wrap ((j : Int) + 1) = (j : Int) + 1 := IntWalk.i64_in _ (by omega)
           obtain ⟨x, hx⟩ : ∃ x, l.attrs[j]? = some x := ⟨_, List.getElem?_eq_getElem (by rw [HN.out]; omega)⟩
           obtain ⟨ad', hA, x0, x1⟩ := rdA_at HA.out hx
           cases hA
           have y0 := cell_keep HBW2.out x0
           have y1 := cell_keep HBW2.out x1
           have hxs := attrsL_at hx
           have HX := Lib.hid hx
           clear hx x0 x1
           have hes := escT_len true _ (B x.val) (Nat.le_refl _)
           rw [← size_B, ← size_S] at hes
           have hbA : Below w.heap.size w (wr.alloc (.cells #[.string x.name, .string x.val] 40)) := HBW2.out.trans ((Below.refl _ _).alloc HBW2.out.size _)
           have hE := escape_any x.val true (wr.alloc (.cells #[.string x.name, .string x.val] 40)).drew (by omega) (HT.out.keep hbA.drew)
           obtain ⟨E, hEE⟩ : ∃ E, S (escT true (B x.val)) = E := ⟨_, rfl⟩
           rw [hEE] at hE hes
           have hE1 : E.size ≤ 240000 := by omega
           have hx1 : x.name.size ≤ 240000 := by omega
           have HE := Lib.hid hE
           have HEE := Lib.hid hEE
           have HBA := Lib.hid hbA
           clear hE hEE hbA hes hxs
           go_upto_region 6 with (fail)
           have g0 : (wr.alloc (.cells #[.string x.name, .string x.val] 40)).cell? ⟨wr.heap.size, 0, none⟩ = some (.string x.name) := (Blk.new wr _ _ _).cell 0
           have g1 : (wr.alloc (.cells #[.string x.name, .string x.val] 40)).cell? ⟨wr.heap.size, 1, none⟩ = some (.string x.val) := (Blk.new wr _ _ _).cell 1
           have b1 : ¬ (9223372036854775807 < 1 + x.name.size) := by omega
           have b2 : ¬ (9223372036854775807 < 1 + x.name.size + 2) := by omega
           have b3 : ¬ (9223372036854775807 < 1 + x.name.size + 2 + E.size) := by omega
           have b4 : ¬ (9223372036854775807 < 1 + x.name.size + 2 + E.size + 1) := by omega
           go_region_with ((first
             | (go_at_call 22
                with_reducible refine HE.out.mono ?_
                rintro e w2 ⟨rfl, hb2⟩
                have g0' := cell_keep hb2 (show (wr.alloc (.cells #[.string x.name, .string x.val] 40)).drew.cell? ⟨wr.heap.size, 0, none⟩ = some (.string x.name) from g0)
                have hb2' : Below wr.heap.size wr w2 := (((Below.refl wr.heap.size wr).alloc (Nat.le_refl _) _).drew).trans (hb2.mono (by simp))
                have HWR := Lib.hid (write_but w.heap.size v2 _ (⟨#[32]⟩ ++ x.name ++ ⟨#[61, 34]⟩ ++ E ++ ⟨#[34]⟩) w2 (HBD2.out.keep hb2') (by
                  have h1 := attrsL_len (l.attrs.take j)
                  have h2 := wA_take l.attrs j
                  simp only [ByteArray.size_append, List.length_append, List.length_singleton, ← size_B]
                  show 1 + _ + _ + (1 + _ + 2 + _ + 1) ≤ _
                  omega))
                have HB2 := Lib.hid (HBW2.out.trans (hb2'.mono HBW2.out.size))
                clear hb2 hb2')
             | (go_at_call 67
                with_reducible refine HWR.out.mono ?_
                rintro e w3 ⟨v3, rfl, hbd3, hbut3, hgr3⟩
                have HFB := Lib.hid (BdV.of HF2.out HB2.out.size hbut3 hgr3)
                have HBD3 := Lib.hid hbd3
                clear hbd3 hbut3 hgr3)))
           all_goals
             go_wp2_with fail
             go_roundw
             case measure => simp [intOf]; omega
             case rel =>
             refine ⟨j + 1, v3, by omega, by go_num, ?_, HB2.out.trans HFB.out.2, HFB.out.1⟩
             have h := HBD3.out
             rw [attrsL_take HX.out]
             have e : B (⟨#[32]⟩ ++ x.name ++ ⟨#[61, 34]⟩ ++ E ++ ⟨#[34]⟩) = attrL x := by
               rw [← HEE.out, B_appR, B_appR, B_appR, B_appR]
               rfl
             rw [e] at h
             rw [← List.append_assoc]
             exact h)
      · have d0 : decide ((j : Int) < (n : Int)) = false := decide_eq_false (by omega)
        obtain rfl : j = n := by omega
        have hl : l.attrs.take j = l.attrs := List.take_of_length_le (by rw [HN.out]; exact Nat.le_refl _)
        have hbd := HBD2.out
        rw [hl] at hbd
        have HWR := Lib.hid (write_but w.heap.size v2 _ ⟨#[62]⟩ wr hbd (by
          have h1 := attrsL_len l.attrs
          simp only [List.length_append, List.length_singleton, ← size_B]
          show 1 + _ + _ + 1 ≤ _
          omega))
        clear hl hbd
        go_wp2_with (go_at_call 67; with_reducible refine HWR.out.mono ?_; rintro e w3 ⟨v3, rfl, hbd3, hbut3, hgr3⟩; have HFB := Lib.hid (BdV.of HF2.out HBW2.out.size hbut3 hgr3); have HBD3 := Lib.hid hbd3; clear hbd3 hbut3 hgr3)
        have HS := Lib.hid (bstring_any w.heap.size w.heap.size _ w3 (HBD3.out.bld HFB.out.1) (Nat.le_trans HBW2.out.size HFB.out.2.size))
        go_wp2_with (go_at_call 66; with_reducible refine HS.out.mono ?_; rintro e w4 ⟨rfl, hb4⟩)
        go_ret
        exact ⟨congrArg (fun z => Ending.returned (.string (S z))) (by simp [openL]; rfl), (HBW2.out.trans HFB.out.2).trans hb4⟩
end Go.Proofs.YtojpedgfllgbcaaDoor
