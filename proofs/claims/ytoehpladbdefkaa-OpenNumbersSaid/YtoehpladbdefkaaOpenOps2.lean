/- Open elements: Remove, Replace, After. -/
import Derived.Test.YtoehpladbdefkaaOpenBoth
import Derived.Test.YtoehpladbdefkaaPutItem
import Derived.Test.YtoehpladbdefkaaOpenRef2
import Derived.Deep.RegionHeld3
import Derived.BigQuiet
namespace Go.Proofs.Ytoehpladbdefkaa
open Go.RowKit Go.BigFrame

theorem placeR_cases (h : Int) : ∀ r : List Int, placeR h r = -1 ∨ ∃ j : Nat, placeR h r = (j : Int) ∧ j < r.length
  | [] => .inl rfl
  | x :: r => by
    unfold placeR
    split
    · exact .inr ⟨r.length, rfl, by simp⟩
    · rcases placeR_cases h r with e | ⟨j, e, hj⟩
      · exact .inl e
      · exact .inr ⟨j, e, by simp only [List.length_cons]; omega⟩
theorem placeB_cases (l : List Int) (h : Int) : placeB l h = -1 ∨ ∃ j : Nat, placeB l h = (j : Int) ∧ j < l.length := by
  have := placeR_cases h l.reverse
  rwa [List.length_reverse] at this
theorem place_f (F : Nat → Prop) (w : World) (q : Nat) (l : List It) (hd : Int) (h : LF_item F w q l) :
    Calls Try.prog 74 #[.pointer (some ⟨q, 0, none⟩), .int .i64 hd] w fun e w' => e = .returned (.int .i64 (placeB (l.map It.h) hd)) ∧ Below w.heap.size w w' := by
  obtain ⟨p, v, h1, h2, h3, h4⟩ := h
  exact place_item 0 w q l hd ⟨p, v, h1, h2, h3, fun _ _ => Nat.zero_le _, Nat.zero_le _, Nat.zero_le _⟩
theorem but_then {F : Nat → Prop} {w w1 w2 : World} (b : Below w.heap.size w w1) (h : But F w1 w2) : But F w w2 := (But.of_below (S := F) b).trans h (fun _ hk => .inl hk)
theorem item_alloc_below (w : World) (cs : Array Value) : Below w.heap.size w (w.alloc (.cells cs 50)).drew := ((Below.refl _ _).alloc (Nat.le_refl _) _).drew

set_option maxHeartbeats 4000000 in
set_option maxRecDepth 100000 in
theorem replace_in (F : Nat → Prop) (w : World) (q : Nat) (l : List It) (hd : Int) (j : Nat) (x : It) (h : LF_item F w q l) (hp : placeB (l.map It.h) hd = (j : Int)) (hj : j < l.length) :
    Calls Try.prog 100 #[.pointer (some ⟨q, 0, none⟩), .int .i64 hd, val_item x] w fun e w' => e = .returned (.bool true) ∧ LF_item F w' q (l.set j x) ∧ But F w w' := by
  have hb0 : Below w.heap.size w (w.alloc (.cells (enc_item x).toArray 50)) := (Below.refl _ _).alloc (Nat.le_refl _) _
  have HX := Lib.hid (Blk.new w 50 (enc_item x).toArray (0, 0))
  obtain ⟨w0, hw0⟩ : ∃ w0, w0 = w.alloc (.cells (enc_item x).toArray 50) := ⟨_, rfl⟩
  rw [← hw0] at hb0 HX
  have HW0 := Lib.hid hw0.symm
  have HB0 := Lib.hid hb0
  have h0 := h.keep hb0
  have HPL := Lib.hid (place_f F w0.drew q l hd (h0.keep (made_drew w0)))
  rw [hp] at HPL
  obtain ⟨p, v, h1, h2, h3, h4⟩ := h0
  have HQ := Lib.hid h1
  have HPI := Lib.hid h2
  have HN := Lib.hid h3
  have HF := Lib.hid h4
  have KS := Lib.hid (fun W (hW : Below w0.heap.size w0 W) => (show W.cell? ⟨q, 0, none⟩ = some (.pointer (some ⟨p, 0, none⟩)) ∧ (∀ k u, (enc_item x)[k]? = some u → W.cell? ⟨w.heap.size, k, none⟩ = some u) from ⟨(h1.keep hW).cell 0, (var_item (HX.out.keep hW)).1⟩))
  have HDB := Lib.hid (made_drew w0)
  clear h h1 h2 h3 h4 hb0 hw0 hp
  unfold val_item
  go_enter Try.func100, Try.ntmps100
  go_upto_region 1 with (fail)
  rw [show w.alloc (.cells #[.int .i64 x.h, .int .i64 x.ns, .string x.name, .slice x.a x.n x.c] 50) = w0 from HW0.out]
  obtain ⟨g0, gx⟩ := KS.out _ HDB.out
  have x0 := gx 0 _ rfl; have x1 := gx 1 _ rfl; have x2 := gx 2 _ rfl; have x3 := gx 3 _ rfl
  clear gx
  go_region_with ((first
    | (go_at_call 74
       refine HPL.out.mono ?_
       rintro e w5 ⟨rfl, b5⟩
       have HBW := Lib.hid (below_then HDB.out HDB.out.size b5)
       obtain ⟨g0, gx⟩ := KS.out _ HBW.out
       have x0 := gx 0 _ rfl; have x1 := gx 1 _ rfl; have x2 := gx 2 _ rfl; have x3 := gx 3 _ rfl
       clear gx b5)
    | (go_at_call 123
       refine (set_in_item w5 p v l j x (HPI.out.keep HBW.out) hj).mono ?_
       rintro e w6 ⟨rfl, hs6, b6⟩
       have HS6 := Lib.hid hs6
       have HB6 := Lib.hid b6
       clear hs6 b6)))
  all_goals
    go_wp2_with fail
    go_ret
    have b05 := below_then HB0.out HB0.out.size HBW.out
    exact ⟨rfl, ⟨p, v, (HQ.out.keep HBW.out).but HB6.out HN.out, HS6.out, HN.out, HF.out⟩, but_then b05 (HB6.out.mono (fun k hk => .inl (HF.out k hk)))⟩

theorem getL_minus {α : Type} (l : List α) : getL l (-1) = none := by
  cases h : getL l (-1) with
  | none => rfl
  | some x =>
    obtain ⟨j, hj, _⟩ := getL_some h
    omega
set_option maxHeartbeats 4000000 in
set_option maxRecDepth 100000 in
theorem replace_out (F : Nat → Prop) (w : World) (q : Nat) (l : List It) (hd : Int) (x : It) (h : LF_item F w q l) (hp : placeB (l.map It.h) hd = -1) :
    Calls Try.prog 100 #[.pointer (some ⟨q, 0, none⟩), .int .i64 hd, val_item x] w fun e w' => e = .returned (.bool false) ∧ Below w.heap.size w w' := by
  have hb0 : Below w.heap.size w (w.alloc (.cells (enc_item x).toArray 50)) := (Below.refl _ _).alloc (Nat.le_refl _) _
  have HX := Lib.hid (Blk.new w 50 (enc_item x).toArray (0, 0))
  obtain ⟨w0, hw0⟩ : ∃ w0, w0 = w.alloc (.cells (enc_item x).toArray 50) := ⟨_, rfl⟩
  rw [← hw0] at hb0 HX
  have HW0 := Lib.hid hw0.symm
  have HB0 := Lib.hid hb0
  have h0 := h.keep hb0
  have HPL := Lib.hid (place_f F w0.drew q l hd (h0.keep (made_drew w0)))
  rw [hp] at HPL
  obtain ⟨p, v, h1, h2, h3, h4⟩ := h0
  have HPI := Lib.hid h2
  have KS := Lib.hid (fun W (hW : Below w0.heap.size w0 W) => (show W.cell? ⟨q, 0, none⟩ = some (.pointer (some ⟨p, 0, none⟩)) ∧ (∀ k u, (enc_item x)[k]? = some u → W.cell? ⟨w.heap.size, k, none⟩ = some u) from ⟨(h1.keep hW).cell 0, (var_item (HX.out.keep hW)).1⟩))
  have HDB := Lib.hid (made_drew w0)
  clear h h1 h2 h3 h4 hb0 hw0 hp
  unfold val_item
  go_enter Try.func100, Try.ntmps100
  go_upto_region 1 with (fail)
  rw [show w.alloc (.cells #[.int .i64 x.h, .int .i64 x.ns, .string x.name, .slice x.a x.n x.c] 50) = w0 from HW0.out]
  obtain ⟨g0, gx⟩ := KS.out _ HDB.out
  have x0 := gx 0 _ rfl; have x1 := gx 1 _ rfl; have x2 := gx 2 _ rfl; have x3 := gx 3 _ rfl
  clear gx
  go_region_with ((first
    | (go_at_call 74
       refine HPL.out.mono ?_
       rintro e w5 ⟨rfl, b5⟩
       have HBW := Lib.hid (below_then HDB.out HDB.out.size b5)
       obtain ⟨g0, gx⟩ := KS.out _ HBW.out
       have x0 := gx 0 _ rfl; have x1 := gx 1 _ rfl; have x2 := gx 2 _ rfl; have x3 := gx 3 _ rfl
       clear gx b5)
    | (go_at_call 123
       refine (set_out_item w5 p v l (-1) x (HPI.out.keep HBW.out) (getL_minus l)).mono ?_
       rintro e w6 ⟨rfl, b6⟩
       have HB6 := Lib.hid b6
       clear b6)))
  all_goals
    go_wp2_with fail
    go_ret
    exact ⟨rfl, below_then (below_then HB0.out HB0.out.size HBW.out) (Nat.le_trans HB0.out.size HBW.out.size) HB6.out⟩

set_option maxHeartbeats 4000000 in
set_option maxRecDepth 100000 in
theorem after_in (F : Nat → Prop) (w : World) (q : Nat) (l : List It) (hd : Int) (j : Nat) (x : It) (h : LF_item F w q l) (hp : placeB (l.map It.h) hd = (j : Int)) (hj : j < l.length) (hsz : l.length ≤ 1000000) :
    Calls Try.prog 101 #[.pointer (some ⟨q, 0, none⟩), .int .i64 hd, val_item x] w fun e w' => e = .returned (.bool true) ∧ LF_item (fun k => F k ∨ w.heap.size ≤ k) w' q (putL l (j + 1) x) ∧ But F w w' := by
  have hb0 : Below w.heap.size w (w.alloc (.cells (enc_item x).toArray 50)) := (Below.refl _ _).alloc (Nat.le_refl _) _
  have HX := Lib.hid (Blk.new w 50 (enc_item x).toArray (0, 0))
  obtain ⟨w0, hw0⟩ : ∃ w0, w0 = w.alloc (.cells (enc_item x).toArray 50) := ⟨_, rfl⟩
  rw [← hw0] at hb0 HX
  have HW0 := Lib.hid hw0.symm
  have HB0 := Lib.hid hb0
  have h0 := h.keep hb0
  have HPL := Lib.hid (place_f F w0 q l hd h0)
  rw [hp] at HPL
  obtain ⟨p, v, h1, h2, h3, h4⟩ := h0
  have HQ := Lib.hid h1
  have HN := Lib.hid h3
  have HF := Lib.hid h4
  have HPI := Lib.hid h2
  have KS := Lib.hid (fun W (hW : Below w0.heap.size w0 W) => (show W.cell? ⟨q, 0, none⟩ = some (.pointer (some ⟨p, 0, none⟩)) ∧ (∀ k u, (enc_item x)[k]? = some u → W.cell? ⟨w.heap.size, k, none⟩ = some u) from ⟨(h1.keep hW).cell 0, (var_item (HX.out.keep hW)).1⟩))
  have HPUT := Lib.hid (fun W (hW : Below w0.heap.size w0 W) => put_in_item W p v l (j + 1) x (h2.keep hW) (by omega) (by omega))
  rw [show ((j + 1 : Nat) : Int) = (j : Int) + 1 by omega] at HPUT
  have d1 : decide ((j : Int) ≥ 0) = true := decide_eq_true (by omega)
  have d2 : (0 : Int) ≤ (j : Int) := by omega
  have s1 : IntKind.i64.wrap ((j : Int) + 1) = (j : Int) + 1 := IntWalk.i64_in _ (by omega)
  clear h h1 h2 h3 h4 hb0 hw0 hp
  unfold val_item at *
  go_enter Try.func101, Try.ntmps101
  go_wp2_with fail
  rw [show w.alloc (.cells #[.int .i64 x.h, .int .i64 x.ns, .string x.name, .slice x.a x.n x.c] 50) = w0 from HW0.out]
  refine HPL.out.mono ?_
  rintro e w5 ⟨rfl, b5⟩
  have HB5 := Lib.hid b5
  have HDB := Lib.hid (show Below w0.heap.size w0 w5.drew from b5.drew)
  obtain ⟨g0, gx⟩ := KS.out _ HDB.out
  have x0 := gx 0 _ rfl; have x1 := gx 1 _ rfl; have x2 := gx 2 _ rfl; have x3 := gx 3 _ rfl
  clear gx b5
  go_upto_region 2 with (fail)
  go_region_with ((
    go_at_call 124
    refine (HPUT.out _ HDB.out).mono ?_
    rintro e w6 ⟨v6, rfl, hs6, b6, g6⟩
    have HS6 := Lib.hid hs6
    have HB6 := Lib.hid b6
    have HG6 := Lib.hid g6
    clear hs6 b6 g6))
  all_goals
    go_wp2_with fail
    go_ret
    have hb05 : Below w.heap.size w w5.drew := below_then HB0.out HB0.out.size HDB.out
    have hsz5 := hb05.size
    have hbt : But F w w6 := but_then hb05 (HB6.out.mono (fun k hk => .inl (HF.out k hk)))
    have hqlt := (HQ.out.keep HDB.out).lt
    refine ⟨rfl, ⟨p, v6, (HQ.out.keep HDB.out).but HB6.out HN.out, HS6.out, fun hk => ?_, fun k hk => ?_⟩, hbt⟩
    · rcases hk with hk | hk
      · exact HN.out (.inl hk)
      · rcases HG6.out with e | ⟨k2, e1, e2⟩
        · exact HN.out (.inr (e ▸ hk))
        · rw [e2] at hk
          cases hk
          omega
    · rcases hk with hk | hk
      · exact .inl (HF.out k (.inl hk))
      · rcases HG6.out with e | ⟨k2, e1, e2⟩
        · exact .inl (HF.out k (.inr (e ▸ hk)))
        · rw [e2] at hk
          cases hk
          exact .inr (by omega)

set_option maxHeartbeats 4000000 in
set_option maxRecDepth 100000 in
theorem after_out (F : Nat → Prop) (w : World) (q : Nat) (l : List It) (hd : Int) (x : It) (h : LF_item F w q l) (hp : placeB (l.map It.h) hd = -1) :
    Calls Try.prog 101 #[.pointer (some ⟨q, 0, none⟩), .int .i64 hd, val_item x] w fun e w' => e = .returned (.bool false) ∧ Below w.heap.size w w' := by
  have hb0 : Below w.heap.size w (w.alloc (.cells (enc_item x).toArray 50)) := (Below.refl _ _).alloc (Nat.le_refl _) _
  obtain ⟨w0, hw0⟩ : ∃ w0, w0 = w.alloc (.cells (enc_item x).toArray 50) := ⟨_, rfl⟩
  rw [← hw0] at hb0
  have HW0 := Lib.hid hw0.symm
  have HB0 := Lib.hid hb0
  have h0 := h.keep hb0
  have HPL := Lib.hid (place_f F w0 q l hd h0)
  rw [hp] at HPL
  have d1 : decide ((-1 : Int) ≥ 0) = false := by decide
  clear h h0 hb0 hw0 hp
  unfold val_item at *
  go_enter Try.func101, Try.ntmps101
  go_wp2_with fail
  rw [show w.alloc (.cells #[.int .i64 x.h, .int .i64 x.ns, .string x.name, .slice x.a x.n x.c] 50) = w0 from HW0.out]
  refine HPL.out.mono ?_
  rintro e w5 ⟨rfl, b5⟩
  have HB5 := Lib.hid (below_then HB0.out HB0.out.size b5)
  clear b5
  go_upto_region 2 with (fail)
  refine wp_region_after (by kernel_rfl) (by kernel_rfl) ?_
  repeat (any_goals (go_big_quiet_step (fail)))
  refine wpQuiet_nil ?_
  rintro w' ⟨n1, rfl⟩
  go_wp2_with fail
  go_ret
  exact ⟨rfl, below_then HB5.out HB5.out.size n1.below⟩
end Go.Proofs.Ytoehpladbdefkaa
