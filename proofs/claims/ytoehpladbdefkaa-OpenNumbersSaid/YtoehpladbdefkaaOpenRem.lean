/- Open elements: Remove. -/
import Derived.Test.YtoehpladbdefkaaOpenOps2
namespace Go.Proofs.Ytoehpladbdefkaa
open Go.RowKit Go.BigFrame

theorem set4_butF {S : Nat → Prop} {w w1 : World} {b : Nat} (h : But S w w1) (hb : w.heap.size ≤ b) (u0 u1 u2 u3 : Value) : But S w ((((w1.setCell ⟨b, 0, none⟩ u0).setCell ⟨b, 1, none⟩ u1).setCell ⟨b, 2, none⟩ u2).setCell ⟨b, 3, none⟩ u3) :=
  (((h.setCell _ _ (.inr hb)).setCell _ _ (.inr hb)).setCell _ _ (.inr hb)).setCell _ _ (.inr hb)
theorem zero_cells {w : World} {b : Nat} (h : Blk w b 50 #[.int .i64 0, .int .i64 0, .string ⟨#[]⟩, .slice none 0 0] (0, 0)) :
    w.cell? ⟨b, 0, none⟩ = some (.int .i64 0) ∧ w.cell? ⟨b, 1, none⟩ = some (.int .i64 0) ∧ w.cell? ⟨b, 2, none⟩ = some (.string ⟨#[]⟩) ∧ w.cell? ⟨b, 3, none⟩ = some (.slice none 0 0) ∧
    w.frozen? ⟨b, 0, none⟩ = false ∧ w.frozen? ⟨b, 1, none⟩ = false ∧ w.frozen? ⟨b, 2, none⟩ = false ∧ w.frozen? ⟨b, 3, none⟩ = false :=
  ⟨h.cell 0, h.cell 1, h.cell 2, h.cell 3, h.frozen 0 (.inr (Nat.zero_le _)), h.frozen 1 (.inr (Nat.zero_le _)), h.frozen 2 (.inr (Nat.zero_le _)), h.frozen 3 (.inr (Nat.zero_le _))⟩
/-- Behind the cut: the list, and a block of its own that is written. -/
structure Rem (F : Nat → Prop) (w W : World) (q p : Nat) (v : Value) (l : List It) : Prop where
  but : But F w W
  at_ : Blk W q 105 #[.pointer (some ⟨p, 0, none⟩)] (0, 0)
  pile : Pile_item W p v l
  apart : ¬ foot p v q
  foot : ∀ k, foot p v k → F k ∧ k < w.heap.size
theorem Rem.list {F : Nat → Prop} {w W : World} {q p : Nat} {v : Value} {l : List It} (h : Rem F w W q p v l) : LF_item F W q l ∧ But F w W := ⟨⟨p, v, h.at_, h.pile, h.apart, fun k hk => (h.foot k hk).1⟩, h.but⟩
theorem Rem.keep {F : Nat → Prop} {w W W1 : World} {q p : Nat} {v : Value} {l : List It} (h : Rem F w W q p v l) (hb : Below W.heap.size W W1) : Rem F w W1 q p v l :=
  ⟨h.but.trans (S1 := fun _ => False) (But.of_below hb) (fun _ h => h.elim), h.at_.keep hb, h.pile.keep hb, h.apart, h.foot⟩
theorem Rem.set4 {F : Nat → Prop} {w W : World} {q p b : Nat} {v : Value} {l : List It} (h : Rem F w W q p v l) (hb : w.heap.size ≤ b) (hq : q < w.heap.size) (u0 u1 u2 u3 : Value) : Rem F w ((((W.setCell ⟨b, 0, none⟩ u0).setCell ⟨b, 1, none⟩ u1).setCell ⟨b, 2, none⟩ u2).setCell ⟨b, 3, none⟩ u3) q p v l :=
  ⟨set4_butF h.but hb _ _ _ _, h.at_.but (set4_but _ _ _ _ _ _) (by omega), h.pile.but (set4_but _ _ _ _ _ _) (fun k hk e => by have := (h.foot k hk).2; omega), h.apart, h.foot⟩

set_option maxHeartbeats 4000000 in
set_option maxRecDepth 100000 in
theorem remove_in (F : Nat → Prop) (w : World) (q : Nat) (l : List It) (hd : Int) (j : Nat) (h : LF_item F w q l) (hp : placeB (l.map It.h) hd = (j : Int)) (hj : j < l.length) :
    Calls Try.prog 99 #[.pointer (some ⟨q, 0, none⟩), .int .i64 hd] w fun e w' => e = .returned (.bool true) ∧ LF_item F w' q (cutL l j) ∧ But F w w' := by
  obtain ⟨p, v, h1, h2, h3, h4⟩ := h
  obtain ⟨y, hy⟩ : ∃ y, l[j]? = some y := ⟨_, List.getElem?_eq_getElem hj⟩
  have HPL := Lib.hid (fun W (hW : Below w.heap.size w W) => (show Calls Try.prog 74 #[.pointer (some ⟨q, 0, none⟩), .int .i64 hd] W fun e w' => e = .returned (.int .i64 (j : Int)) ∧ Below W.heap.size W w' from by rw [← hp]; exact place_f F W q l hd ⟨p, v, h1.keep hW, h2.keep hW, h3, h4⟩))
  have HCT := Lib.hid (fun W (hW : Below w.heap.size w W) => (show Calls Try.prog 122 #[.pointer (some ⟨p, 0, none⟩), .int .i64 (j : Int)] W fun e w' => e = .returned (.tuple #[.agg #[.int .i64 y.h, .int .i64 y.ns, .string y.name, .slice y.a y.n y.c], .bool true]) ∧ But (foot p v) W w' ∧ ∃ v', Rem F w w' q p v' (cutL l j) from
    (cut_in_item W p v l j y (h2.keep hW) hy).mono fun e w' ⟨v', he, hs, hb, hg⟩ => ⟨he, hb, v', but_then hW (hb.mono (fun k hk => .inl (h4 k hk))), (h1.keep hW).but hb h3, hs, fun hk => h3 (by
      rcases hk with hk | hk
      · exact .inl hk
      · exact .inr (hg ▸ hk)), fun k hk => by
      have hk2 : foot p v k := by
        rcases hk with hk | hk
        · exact .inl hk
        · exact .inr (hg ▸ hk)
      exact ⟨h4 k hk2, h2.lt hk2⟩⟩))
  have KS := Lib.hid (fun W (hW : Below w.heap.size w W) => (show W.cell? ⟨q, 0, none⟩ = some (.pointer (some ⟨p, 0, none⟩)) from (h1.keep hW).cell 0))
  have hql := h1.lt
  have HFT := Lib.hid (fun k (hk : foot p v k) => h2.lt hk)
  have HDB := Lib.hid (made_drew w)
  have HDA := Lib.hid (item_alloc_below w #[.int .i64 0, .int .i64 0, .string ⟨#[]⟩, .slice none 0 0])
  have HZA := Lib.hid (show Blk (w.alloc (.cells #[.int .i64 0, .int .i64 0, .string ⟨#[]⟩, .slice none 0 0] 50)).drew w.heap.size 50 #[.int .i64 0, .int .i64 0, .string ⟨#[]⟩, .slice none 0 0] (0, 0) from Blk.new w _ _ _)
  have k0 := KS.out _ HDB.out
  have k1 := KS.out _ HDA.out
  have k2 := KS.out _ (made_alloc (Below.refl w.heap.size w) (.cells #[.int .i64 0, .int .i64 0, .string ⟨#[]⟩, .slice none 0 0] 50))
  clear h1 h2 h3 h4 hp hy
  go_enter Try.func99, Try.ntmps99
  go_upto_region 1 with (fail)
  go_cut [6] (fun s6 wx => s6 = .bool true ∧ Hid (LF_item F wx q (cutL l j) ∧ But F w wx))
  case first =>
    go_region_with ((first
      | (go_at_call 74
         first
           | (with_reducible refine (HPL.out _ HDB.out).mono ?_
              rintro e w5 ⟨rfl, b5⟩
              have HBW := Lib.hid (below_then HDB.out HDB.out.size b5)
              have k5 := KS.out _ HBW.out
              have k6 := KS.out _ (below_then HBW.out HBW.out.size (made_alloc (Below.refl _ _) (.cells #[.int .i64 0, .int .i64 0, .string ⟨#[]⟩, .slice none 0 0] 50)))
              clear b5)
           | (with_reducible refine (HPL.out _ HDA.out).mono ?_
              rintro e w5 ⟨rfl, b5⟩
              have HBW := Lib.hid (below_then HDA.out HDA.out.size b5)
              have HZ5 := Lib.hid (HZA.out.keep b5)
              have k5 := KS.out _ HBW.out
              clear b5))
      | (go_at_call 122
         first
           | (with_reducible refine (HCT.out _ HBW.out).mono ?_
              rintro e w6 ⟨rfl, b6, v6, hr6⟩
              have HR6 := Lib.hid hr6
              have hz6 := HZ5.out.but b6 (fun hk => by have := HFT.out _ hk; omega)
              obtain ⟨z0, z1, z2, z3, f0, f1, f2, f3⟩ := zero_cells hz6
              have HEW := Lib.hid (Nat.le_refl w.heap.size)
              clear hr6 b6 hz6)
           | (with_reducible refine (HCT.out _ HBW.out).mono ?_
              rintro e w6 ⟨rfl, b6, v6, hr6⟩
              have HR6 := Lib.hid hr6
              clear hr6 b6)
           | (with_reducible refine (HCT.out _ (made_alloc HBW.out _)).mono ?_
              rintro e w6 ⟨rfl, b6, v6, hr6⟩
              have HR6 := Lib.hid hr6
              have HEW := Lib.hid HBW.out.size
              have hz6 := (Blk.new w5 50 #[.int .i64 0, .int .i64 0, .string ⟨#[]⟩, .slice none 0 0] (0, 0)).but b6 (fun hk => by have h1 := HFT.out _ hk; have h2 := HBW.out.size; omega)
              obtain ⟨z0, z1, z2, z3, f0, f1, f2, f3⟩ := zero_cells hz6
              clear hr6 b6 hz6))))
    all_goals
      go_wp2_with fail
      go_meet
      first
        | exact ⟨rfl, (HR6.out.set4 HEW.out hql _ _ _ _).list⟩
        | exact ⟨rfl, (HR6.out.keep ((Below.refl _ _).alloc (Nat.le_refl _) _)).list⟩
  case rest =>
    obtain ⟨rfl, HLB⟩ := hcut
    go_wp2_with fail
    go_ret
    exact ⟨rfl, HLB.out⟩

set_option maxHeartbeats 4000000 in
set_option maxRecDepth 100000 in
theorem remove_out (F : Nat → Prop) (w : World) (q : Nat) (l : List It) (hd : Int) (h : LF_item F w q l) (hp : placeB (l.map It.h) hd = -1) :
    Calls Try.prog 99 #[.pointer (some ⟨q, 0, none⟩), .int .i64 hd] w fun e w' => e = .returned (.bool false) ∧ Below w.heap.size w w' := by
  obtain ⟨p, v, h1, h2, h3, h4⟩ := h
  have HPL := Lib.hid (fun W (hW : Below w.heap.size w W) => (show Calls Try.prog 74 #[.pointer (some ⟨q, 0, none⟩), .int .i64 hd] W fun e w' => e = .returned (.int .i64 (-1)) ∧ Below W.heap.size W w' from by rw [← hp]; exact place_f F W q l hd ⟨p, v, h1.keep hW, h2.keep hW, h3, h4⟩))
  have HCT := Lib.hid (fun W (hW : Below w.heap.size w W) => (show Calls Try.prog 122 #[.pointer (some ⟨p, 0, none⟩), .int .i64 (-1)] W fun e w' => e = .returned (.tuple #[.agg #[.int .i64 0, .int .i64 0, .string ⟨#[]⟩, .slice none 0 0], .bool false]) ∧ Below W.heap.size W w' from
    cut_out_item W p v l (-1) (h2.keep hW) (getL_minus l)))
  have KS := Lib.hid (fun W (hW : Below w.heap.size w W) => (show W.cell? ⟨q, 0, none⟩ = some (.pointer (some ⟨p, 0, none⟩)) from (h1.keep hW).cell 0))
  have HDB := Lib.hid (made_drew w)
  have HDA := Lib.hid (item_alloc_below w #[.int .i64 0, .int .i64 0, .string ⟨#[]⟩, .slice none 0 0])
  have HZA := Lib.hid (show Blk (w.alloc (.cells #[.int .i64 0, .int .i64 0, .string ⟨#[]⟩, .slice none 0 0] 50)).drew w.heap.size 50 #[.int .i64 0, .int .i64 0, .string ⟨#[]⟩, .slice none 0 0] (0, 0) from Blk.new w _ _ _)
  have k0 := KS.out _ HDB.out
  have k1 := KS.out _ HDA.out
  have k2 := KS.out _ (made_alloc (Below.refl w.heap.size w) (.cells #[.int .i64 0, .int .i64 0, .string ⟨#[]⟩, .slice none 0 0] 50))
  clear h1 h2 h3 h4 hp
  go_enter Try.func99, Try.ntmps99
  go_upto_region 1 with (fail)
  go_cut [6] (fun s6 wx => s6 = .bool false ∧ Hid (Below w.heap.size w wx))
  case first =>
    go_region_with ((first
      | (go_at_call 74
         first
           | (with_reducible refine (HPL.out _ HDB.out).mono ?_
              rintro e w5 ⟨rfl, b5⟩
              have HBW := Lib.hid (below_then HDB.out HDB.out.size b5)
              have k5 := KS.out _ HBW.out
              have k6 := KS.out _ (below_then HBW.out HBW.out.size (made_alloc (Below.refl _ _) (.cells #[.int .i64 0, .int .i64 0, .string ⟨#[]⟩, .slice none 0 0] 50)))
              clear b5)
           | (with_reducible refine (HPL.out _ HDA.out).mono ?_
              rintro e w5 ⟨rfl, b5⟩
              have HBW := Lib.hid (below_then HDA.out HDA.out.size b5)
              have HZ5 := Lib.hid (HZA.out.keep b5)
              have k5 := KS.out _ HBW.out
              clear b5))
      | (go_at_call 122
         first
           | (with_reducible refine (HCT.out _ HBW.out).mono ?_
              rintro e w6 ⟨rfl, b6⟩
              have HR6 := Lib.hid (below_then HBW.out HBW.out.size b6)
              have hz6 := HZ5.out.keep b6
              obtain ⟨z0, z1, z2, z3, f0, f1, f2, f3⟩ := zero_cells hz6
              have HEW := Lib.hid (Nat.le_refl w.heap.size)
              clear b6 hz6)
           | (with_reducible refine (HCT.out _ HBW.out).mono ?_
              rintro e w6 ⟨rfl, b6⟩
              have HR6 := Lib.hid (below_then HBW.out HBW.out.size b6)
              clear b6)
           | (with_reducible refine (HCT.out _ (made_alloc HBW.out _)).mono ?_
              rintro e w6 ⟨rfl, b6⟩
              have HR6 := Lib.hid (below_then (made_alloc HBW.out (.cells #[.int .i64 0, .int .i64 0, .string ⟨#[]⟩, .slice none 0 0] 50)) (made_alloc HBW.out _).size b6)
              have HEW := Lib.hid HBW.out.size
              have hz6 := (Blk.new w5 50 #[.int .i64 0, .int .i64 0, .string ⟨#[]⟩, .slice none 0 0] (0, 0)).keep b6
              obtain ⟨z0, z1, z2, z3, f0, f1, f2, f3⟩ := zero_cells hz6
              clear b6 hz6))))
    all_goals
      go_wp2_with fail
      go_meet
      first
        | exact ⟨rfl, (((HR6.out.setCell HEW.out _).setCell HEW.out _).setCell HEW.out _).setCell HEW.out _⟩
        | exact ⟨rfl, made_alloc HR6.out _⟩
  case rest =>
    obtain ⟨rfl, HLB⟩ := hcut
    go_wp2_with fail
    go_ret
    exact ⟨rfl, HLB.out⟩
end Go.Proofs.Ytoehpladbdefkaa
