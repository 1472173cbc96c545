/- arbourlaw23: attrs and made: a row's thing as a node. -/
import Derived.Test.YtojpedgfllgbcaaDoorTrG
import Derived.Test.YtojpedgfllgbcaaDoorAttrs3
import Derived.Test.YtojpedgfllgbcaaDoorSetN
namespace Go.Proofs.YtojpedgfllgbcaaDoor
open Go.RowKit

theorem attrs23_any (w : World) (A : Option Addr) (n c : Nat) (l : List At) (h : RdA w A n l) (hok : ∀ x ∈ l, x.ok) (hb : n ≤ 9223372036854775807) :
    Calls Tryd.prog 45 #[.slice A n c] w fun e w' => ∃ v', e = .returned v' ∧ RowA w' w.heap.size v' (uniqA (shortA l)) ∧ Below w.heap.size w w' := by
  have HS := Lib.hid (short_keep w A n c l h hok hb)
  have hl := shortA_len l
  clear h hok
  go_enter Tryd.func45, Tryd.ntmps45
  go_wp2_with fail
  refine HS.out.mono ?_
  rintro e w1 ⟨v1, rfl, h1, hb1⟩
  obtain ⟨A1, c1, rfl, hr1⟩ := h1.read
  have HU := Lib.hid (unique7 w1 A1 _ c1 _ hr1 (by omega))
  have HB := Lib.hid hb1
  clear h1 hr1 hb1
  go_wp2_with (go_at_call 50; with_reducible refine HU.out.mono ?_; rintro e w2 ⟨v2, rfl, h2, hb2⟩; obtain ⟨A2, c2, rfl, hr2⟩ := h2.read; have H2 := Lib.hid h2; clear h2 hr2)
  go_ret
  exact ⟨_, rfl, H2.out.le HB.out.size, below_both HB.out hb2⟩

/-- A node of a row, as a value. -/
def ndV (x : Nd) (A : Option Addr) (c : Nat) : Value := .agg #[.int .i64 x.kind, .int .i64 x.n, .int .i64 x.up, .bool x.svg, .string x.text, .slice A x.attrs.length c]
structure NdOk (w : World) (x : Nd) (A : Option Addr) : Prop where
  attrs : RdA w A x.attrs.length x.attrs
  ok : ∀ a ∈ x.attrs, a.ok
  len : x.attrs.length ≤ 9223372036854775807
  text : x.text.size ≤ 9223372036854775807
theorem NdOk.keep {w w' : World} {x : Nd} {A : Option Addr} (h : NdOk w x A) (hb : Below w.heap.size w w') : NdOk w' x A := ⟨h.attrs.keep hb, h.ok, h.len, h.text⟩

/-- The element, made but for its namespace and its Content. -/
def MadeMid23 (wr : World) (x : Nd) (nm : ByteArray) (b : Nat) (W : World) : Prop :=
  ∃ A' c', Blk W b 25 #[.int .i64 3, .int .i64 1, .string nm, .slice A' (uniqA (shortA x.attrs)).length c', .string ⟨#[]⟩, .slice none 0 0] (0, 0) ∧ RowA W wr.heap.size (.slice A' (uniqA (shortA x.attrs)).length c') (uniqA (shortA x.attrs)) ∧ (Value.slice A' (uniqA (shortA x.attrs)).length c').ownBlock ≠ some b ∧ Below wr.heap.size wr W ∧ wr.heap.size ≤ b

theorem mid_new23 {wr w4 : World} {x : Nd} {nm : ByteArray} {A4 : Option Addr} {c4 base : Nat} (hrow : RowA w4 base (.slice A4 (uniqA (shortA x.attrs)).length c4) (uniqA (shortA x.attrs))) (hbb : wr.heap.size ≤ base) (hb : Below wr.heap.size wr w4) :
    MadeMid23 wr x nm w4.heap.size (w4.alloc (.cells #[.int .i64 3, .int .i64 1, .string nm, .slice A4 (uniqA (shortA x.attrs)).length c4, .string ⟨#[]⟩, .slice none 0 0] 25)) :=
  ⟨A4, c4, Blk.new w4 _ _ _, (hrow.keep ((Below.refl _ _).alloc (Nat.le_refl _) _)).le hbb, fun e => by have := (hrow.lt _ e).2; omega, hb.alloc hb.size _, hb.size⟩
theorem mid_old23 {wr w4 : World} {x : Nd} {nm : ByteArray} {A4 : Option Addr} {c4 base b : Nat} {v0 v1 v2 v3 v4 v5 : Value} (hrow : RowA w4 base (.slice A4 (uniqA (shortA x.attrs)).length c4) (uniqA (shortA x.attrs)))
    (hz : Blk w4 b 25 #[v0, v1, v2, v3, v4, v5] (0, 0)) (hlt : b < base) (hb : Below wr.heap.size wr w4) (hbb : wr.heap.size ≤ b) :
    MadeMid23 wr x nm b ((((((w4.setCell ⟨b, 0, none⟩ (.int .i64 3)).setCell ⟨b, 1, none⟩ (.int .i64 1)).setCell ⟨b, 2, none⟩ (.string nm)).setCell ⟨b, 3, none⟩ (.slice A4 (uniqA (shortA x.attrs)).length c4)).setCell ⟨b, 4, none⟩ (.string ⟨#[]⟩)).setCell ⟨b, 5, none⟩ (.slice none 0 0)) := by
  have h2 : RowA _ base (.slice A4 (uniqA (shortA x.attrs)).length c4) (uniqA (shortA x.attrs)) := owns_but hrow (set6_but w4 b (.int .i64 3) (.int .i64 1) (.string nm) (.slice A4 (uniqA (shortA x.attrs)).length c4) (.string ⟨#[]⟩) (.slice none 0 0)) (fun g hg e => by have := (hrow.lt g hg).1; omega)
  exact ⟨A4, c4, set6_blk hz _ _ _ _ _ _, h2.le (by omega), fun e => by have := (hrow.lt _ e).1; omega, set6_below hb hbb _ _ _ _ _ _, hbb⟩

set_option maxHeartbeats 16000000 in
set_option maxRecDepth 100000 in
theorem made23_any (w : World) (x : Nd) (A : Option Addr) (c : Nat) (top : Bool) (h : NdOk w x A) :
    Calls Tryd.prog 20 #[ndV x A c, .bool top] w fun e w' => ∃ q, e = .returned (valP (madeT x top).1 (madeT x top).2.len q) ∧ PartsOk w' (madeT x top).1 (madeT x top).2 q ∧ FitK q (madeT x top).2 ∧ Below w.heap.size w w' := by
  have hbd := withinI_bd x.kind 0 1000 (by omega)
  have hkk : kindK x = (withinI x.kind 0 1000).toNat % 5 := rfl
  obtain ⟨m, hm⟩ := Int.eq_ofNat_of_zero_le hbd.1
  rw [hm, Int.toNat_natCast] at hkk
  have hlt : kindK x < 5 := by rw [hkk]; exact Nat.mod_lt _ (by decide)
  have HWI := Lib.hid (fun W => within_keep x.kind 0 1000 W (by omega) (by omega) (by omega))
  have HHD := Lib.hid (fun W => head_short x.text 9 W (by omega) h.text)
  rw [hm] at HWI
  have e1 : (m : Int).tmod 5 = ((kindK x : Nat) : Int) := by
    rw [Int.tmod_eq_emod_of_nonneg (by omega), hkk]; omega
  have hbN : Below w.heap.size w (w.alloc (.cells #[.int .i64 x.kind, .int .i64 x.n, .int .i64 x.up, .bool x.svg, .string x.text, .slice A x.attrs.length c] 41)) := (Below.refl _ _).alloc (Nat.le_refl _) _
  have HH := Lib.hid h
  obtain ⟨kd, hkd⟩ : ∃ kd, kindK x = kd := ⟨_, rfl⟩
  rw [hkd] at e1 hlt
  obtain ⟨tx, htx⟩ : ∃ tx, headB x.text 9 = tx := ⟨_, rfl⟩
  have htx' : headB x.text (Int.toNat 9) = tx := htx
  rw [htx'] at HHD
  have HMT : Hid (madeT x top = if kd = 0 then (⟨5, 0, ⟨#[]⟩, [], tx⟩, .nil) else if (kd = 1 ∨ kd = 2) ∧ tx.toList ≠ [] ∧ top = false then (⟨4, 0, ⟨#[]⟩, [], tx⟩, .nil) else (elemL x, elemK x)) := by
    show _ = _
    unfold madeT
    rw [hkd, htx]
  have HB := Lib.hid hbN
  clear hbd hkk hm hkd htx htx' hbN h
  unfold ndV
  by_cases hk0 : kd = 0
  · subst hk0
    have e2 : (((0 : Nat) : Int) == 0) = true := rfl
    rw [HMT.out, if_pos rfl]
    go_enter Tryd.func20, Tryd.ntmps20
    go_wp2_with (first
      | (go_at_call 18; with_reducible refine (HHD.out _).mono ?_; rintro e w1 ⟨rfl, rfl⟩)
      | (go_at_call 27; with_reducible refine (HWI.out _).mono ?_; rintro e w1 ⟨rfl, rfl⟩))
    refine bodyPost_ret (v := valP ⟨5, 0, ⟨#[]⟩, [], tx⟩ 0 ⟨none, 0, none, 0⟩) (by simp [results, Tryd.results20, valP, go_sem]) rfl ⟨⟨none, 0, none, 0⟩, rfl, ⟨RdA.nil _, RdF.nil _ _ _ (Nat.zero_le _)⟩, FitK.nil _ _, ?_⟩
    exact HB.out.alloc (by simp) _
  · have e2 : ((kd : Int) == 0) = false := by rw [beq_eq_false_iff_ne]; omega
    by_cases hc : (kd = 1 ∨ kd = 2) ∧ tx.toList ≠ [] ∧ top = false
    · rw [HMT.out, if_neg hk0, if_pos hc]
      obtain ⟨hk12, htn, rfl⟩ := hc
      have q1 : (tx.toList == []) = false := by rw [beq_eq_false_iff_ne]; exact htn
      have q2 : (!tx.toList.isEmpty) = true := by cases hq : tx.toList with | nil => exact absurd hq htn | cons a b => rfl
      have q3 : ¬ tx.toList = [] := htn
      clear htn
      rcases hk12 with rfl | rfl
      all_goals
        go_enter Tryd.func20, Tryd.ntmps20
        go_wp2_with (first
          | (go_at_call 18; with_reducible refine (HHD.out _).mono ?_; rintro e w1 ⟨rfl, rfl⟩)
          | (go_at_call 27; with_reducible refine (HWI.out _).mono ?_; rintro e w1 ⟨rfl, rfl⟩))
        refine bodyPost_ret (v := valP ⟨4, 0, ⟨#[]⟩, [], tx⟩ 0 ⟨none, 0, none, 0⟩) (by simp [results, Tryd.results20, valP, go_sem]) rfl ⟨⟨none, 0, none, 0⟩, rfl, ⟨RdA.nil _, RdF.nil _ _ _ (Nat.zero_le _)⟩, FitK.nil _ _, ?_⟩
        exact HB.out.alloc (by simp) _
    · rw [HMT.out, if_neg hk0, if_neg hc]
      have hway : (kd = 1 ∧ tx.toList = []) ∨ (kd = 2 ∧ tx.toList = []) ∨ (kd = 1 ∧ tx.toList ≠ [] ∧ top = true) ∨ (kd = 2 ∧ tx.toList ≠ [] ∧ top = true) ∨ ((kd : Int) == 1) = false ∧ ((kd : Int) == 2) = false := by
        by_cases h1 : kd = 1
        · by_cases h2 : tx.toList = []
          · exact .inl ⟨h1, h2⟩
          · exact .inr (.inr (.inl ⟨h1, h2, by cases top with | true => rfl | false => exact absurd ⟨.inl h1, h2, rfl⟩ hc⟩))
        · by_cases h3 : kd = 2
          · by_cases h2 : tx.toList = []
            · exact .inr (.inl ⟨h3, h2⟩)
            · exact .inr (.inr (.inr (.inl ⟨h3, h2, by cases top with | true => rfl | false => exact absurd ⟨.inr h3, h2, rfl⟩ hc⟩)))
          · exact .inr (.inr (.inr (.inr ⟨by rw [beq_eq_false_iff_ne]; omega, by rw [beq_eq_false_iff_ne]; omega⟩)))
      have HNM := Lib.hid (fun W => names_keep x.n W)
      obtain ⟨nm, hnm⟩ : ∃ nm, nameAt x.n = nm := ⟨_, rfl⟩
      rw [hnm] at HNM
      have HNE := Lib.hid hnm
      clear hc hnm HMT
      rcases hway with ⟨rfl, h1⟩ | ⟨rfl, h1⟩ | ⟨rfl, h1, rfl⟩ | ⟨rfl, h1, rfl⟩ | ⟨h1, h2⟩
      all_goals
        go_enter Tryd.func20, Tryd.ntmps20
        go_upto_region 9 with (first
          | (go_at_call 18; with_reducible refine (HHD.out _).mono ?_; rintro e w1 ⟨rfl, rfl⟩)
          | (go_at_call 27; with_reducible refine (HWI.out _).mono ?_; rintro e w1 ⟨rfl, rfl⟩))
        obtain ⟨wr, hwr⟩ : ∃ wr, (w.alloc (.cells #[.int .i64 x.kind, .int .i64 x.n, .int .i64 x.up, .bool x.svg, .string x.text, .slice A x.attrs.length c] 41)).alloc (.cells #[.int .i64 0, .int .i64 0, .string ⟨#[]⟩, .slice none 0 0, .string ⟨#[]⟩, .slice none 0 0] 25) = wr := ⟨_, rfl⟩
        have hbr : Below w.heap.size w ((w.alloc (.cells #[.int .i64 x.kind, .int .i64 x.n, .int .i64 x.up, .bool x.svg, .string x.text, .slice A x.attrs.length c] 41)).alloc (.cells #[.int .i64 0, .int .i64 0, .string ⟨#[]⟩, .slice none 0 0, .string ⟨#[]⟩, .slice none 0 0] 25)) := (((Below.refl _ _).alloc (Nat.le_refl _) _).alloc (by simp) _)
        have hnb : Blk ((w.alloc (.cells #[.int .i64 x.kind, .int .i64 x.n, .int .i64 x.up, .bool x.svg, .string x.text, .slice A x.attrs.length c] 41)).alloc (.cells #[.int .i64 0, .int .i64 0, .string ⟨#[]⟩, .slice none 0 0, .string ⟨#[]⟩, .slice none 0 0] 25)) w.heap.size 41 #[.int .i64 x.kind, .int .i64 x.n, .int .i64 x.up, .bool x.svg, .string x.text, .slice A x.attrs.length c] (0, 0) := (Blk.new w _ _ _).alloc _
        have hzb : Blk ((w.alloc (.cells #[.int .i64 x.kind, .int .i64 x.n, .int .i64 x.up, .bool x.svg, .string x.text, .slice A x.attrs.length c] 41)).alloc (.cells #[.int .i64 0, .int .i64 0, .string ⟨#[]⟩, .slice none 0 0, .string ⟨#[]⟩, .slice none 0 0] 25)) (w.heap.size + 1) 25 #[.int .i64 0, .int .i64 0, .string ⟨#[]⟩, .slice none 0 0, .string ⟨#[]⟩, .slice none 0 0] (0, 0) := by
          have := Blk.new (w.alloc (.cells #[.int .i64 x.kind, .int .i64 x.n, .int .i64 x.up, .bool x.svg, .string x.text, .slice A x.attrs.length c] 41)) 25 #[.int .i64 0, .int .i64 0, .string ⟨#[]⟩, .slice none 0 0, .string ⟨#[]⟩, .slice none 0 0] (0, 0)
          simpa using this
        rw [hwr] at hbr hnb hzb
        rw [hwr]
        have HBR := Lib.hid hbr
        have HNB := Lib.hid hnb
        have HZB := Lib.hid hzb
        have HC : Hid (∀ W, Below wr.heap.size wr W → W.cell? ⟨w.heap.size, 1, none⟩ = some (.int .i64 x.n) ∧ W.cell? ⟨w.heap.size, 3, none⟩ = some (.bool x.svg) ∧ W.cell? ⟨w.heap.size, 5, none⟩ = some (.slice A x.attrs.length c)) := fun W hb => by
          have h := HNB.out.keep hb
          exact ⟨h.cell 1, h.cell 3, h.cell 5⟩
        have HAT : Hid (∀ W, Below wr.heap.size wr W → Calls Tryd.prog 45 #[.slice A x.attrs.length c] W fun e w' => ∃ v', e = .returned v' ∧ RowA w' W.heap.size v' (uniqA (shortA x.attrs)) ∧ Below W.heap.size W w') := fun W hb =>
          attrs23_any W A _ c _ ((HH.out.attrs.keep HBR.out).keep hb) HH.out.ok HH.out.len
        clear hwr hbr hnb hzb
        go_cut [6] (fun s6 wx => ∃ b, s6 = .pointer (some ⟨b, 0, none⟩) ∧ Hid (MadeMid23 wr x nm b wx))
        case first =>
          go_region_held3 (fun W => W.cell? ⟨w.heap.size, 1, none⟩ = some (.int .i64 x.n) ∧ W.cell? ⟨w.heap.size, 3, none⟩ = some (.bool x.svg) ∧ W.cell? ⟨w.heap.size, 5, none⟩ = some (.slice A x.attrs.length c))
            (first
              | (with_reducible exact HC.out _ (made_drew wr))
              | (with_reducible exact HC.out _ (made_alloc_drew wr _))
              | (with_reducible exact HC.out _ HB3.out)
              | (with_reducible exact HC.out _ (made_alloc HB3.out _))
              | (with_reducible exact HC.out _ HB4.out)
              | (with_reducible exact HC.out _ (made_alloc HB4.out _))
              | (with_reducible refine HC.out _ (set6_below (b := wr.heap.size) HB4.out ?_ _ _ _ _ _ _); exact Nat.le_refl _)
              | (with_reducible refine HC.out _ (set6_below (b := w3.heap.size) HB4.out ?_ _ _ _ _ _ _); exact HB3.out.size)
              | fail)
            (first
            | (go_at_call 44
               refine (HNM.out _).mono ?_
               rintro e w3 ⟨rfl, b3⟩
               have hB3 : Below wr.heap.size wr w3 := by first | with_reducible exact below_both (made_drew wr) b3 | with_reducible exact below_both (made_alloc_drew wr _) b3
               obtain ⟨g1, g3, g5⟩ := HC.out _ hB3
               have HB3 := Lib.hid hB3
               first
                 | (have HZ3 : Hid (Blk w3 wr.heap.size 25 #[.int .i64 0, .int .i64 0, .string ⟨#[]⟩, .slice none 0 0, .string ⟨#[]⟩, .slice none 0 0] (0, 0)) := (show Blk (wr.alloc (.cells #[.int .i64 0, .int .i64 0, .string ⟨#[]⟩, .slice none 0 0, .string ⟨#[]⟩, .slice none 0 0] 25)).drew wr.heap.size 25 #[.int .i64 0, .int .i64 0, .string ⟨#[]⟩, .slice none 0 0, .string ⟨#[]⟩, .slice none 0 0] (0, 0) from Blk.new wr 25 #[.int .i64 0, .int .i64 0, .string ⟨#[]⟩, .slice none 0 0, .string ⟨#[]⟩, .slice none 0 0] (0, 0)).keep b3)
                 | skip
               clear b3 hB3)
            | (go_at_call 45
               refine (HAT.out _ ?hb).mono ?_
               case hb => first | with_reducible exact HB3.out | with_reducible exact made_alloc HB3.out _
               rintro e w4 ⟨v4, rfl, hrow4, b4⟩
               obtain ⟨A4, c4, rfl, hr4⟩ := hrow4.read
               have hB4 : Below wr.heap.size wr w4 := by first | with_reducible exact below_both HB3.out b4 | with_reducible exact below_both (made_alloc HB3.out _) b4
               have HROW4 := Lib.hid hrow4
               have HB4 := Lib.hid hB4
               first
                 | (have hz4 : Blk w4 wr.heap.size 25 #[.int .i64 0, .int .i64 0, .string ⟨#[]⟩, .slice none 0 0, .string ⟨#[]⟩, .slice none 0 0] (0, 0) := HZ3.out.keep b4
                    have z0 := hz4.cell 0; have z1 := hz4.cell 1; have z2 := hz4.cell 2; have z3 := hz4.cell 3; have z4 := hz4.cell 4; have z5 := hz4.cell 5
                    have f0 := hz4.frozen 0 (.inr (Nat.zero_le _)); have f1 := hz4.frozen 1 (.inr (Nat.zero_le _)); have f2 := hz4.frozen 2 (.inr (Nat.zero_le _)); have f3 := hz4.frozen 3 (.inr (Nat.zero_le _)); have f4 := hz4.frozen 4 (.inr (Nat.zero_le _)); have f5 := hz4.frozen 5 (.inr (Nat.zero_le _))
                    have HZ4 := Lib.hid hz4
                    clear hz4)
                 | (have hz4 : Blk w4 w3.heap.size 25 #[.int .i64 0, .int .i64 0, .string ⟨#[]⟩, .slice none 0 0, .string ⟨#[]⟩, .slice none 0 0] (0, 0) := (Blk.new w3 25 #[.int .i64 0, .int .i64 0, .string ⟨#[]⟩, .slice none 0 0, .string ⟨#[]⟩, .slice none 0 0] (0, 0)).keep b4
                    have z0 := hz4.cell 0; have z1 := hz4.cell 1; have z2 := hz4.cell 2; have z3 := hz4.cell 3; have z4 := hz4.cell 4; have z5 := hz4.cell 5
                    have f0 := hz4.frozen 0 (.inr (Nat.zero_le _)); have f1 := hz4.frozen 1 (.inr (Nat.zero_le _)); have f2 := hz4.frozen 2 (.inr (Nat.zero_le _)); have f3 := hz4.frozen 3 (.inr (Nat.zero_le _)); have f4 := hz4.frozen 4 (.inr (Nat.zero_le _)); have f5 := hz4.frozen 5 (.inr (Nat.zero_le _))
                    have HZ4 := Lib.hid hz4
                    clear hz4)
                 | skip
               clear b4 hB4 hrow4 hr4))
          all_goals
            (try go_wp2_with fail)
            go_meet
            first
              | (have hq := HZ3.out.lt
                 refine ⟨wr.heap.size, ?_, Lib.hid ?_⟩
                 · with_reducible rfl
                 · with_reducible exact mid_old23 HROW4.out HZ4.out hq HB4.out (Nat.le_refl _))
              | (have hq := HZ4.out.lt
                 have hs : w3.heap.size < (w3.alloc (.cells #[.int .i64 0, .int .i64 0, .string ⟨#[]⟩, .slice none 0 0, .string ⟨#[]⟩, .slice none 0 0] 25)).heap.size := by simp
                 refine ⟨w3.heap.size, ?_, Lib.hid ?_⟩
                 · with_reducible rfl
                 · with_reducible exact mid_old23 HROW4.out HZ4.out hs HB4.out HB3.out.size)
              | (refine ⟨w4.heap.size, ?_, Lib.hid ?_⟩
                 · with_reducible rfl
                 · with_reducible exact mid_new23 HROW4.out HB3.out.size HB4.out)
        case rest =>
          obtain ⟨b, rfl, HM⟩ := hcut
          obtain ⟨A', c', hblk, hrow, hown, hbl, hble⟩ := HM.out
          obtain ⟨c1, c3, c5⟩ := HC.out _ hbl
          have hzl := HZB.out.lt
          have hzk := HZB.out.keep hbl
          have r0 := hzk.cell 0; have r1 := hzk.cell 1; have r2 := hzk.cell 2; have r3 := hzk.cell 3; have r4 := hzk.cell 4; have r5 := hzk.cell 5
          have f0 := hzk.frozen 0 (.inr (Nat.zero_le _)); have f1 := hzk.frozen 1 (.inr (Nat.zero_le _)); have f2 := hzk.frozen 2 (.inr (Nat.zero_le _)); have f3 := hzk.frozen 3 (.inr (Nat.zero_le _)); have f4 := hzk.frozen 4 (.inr (Nat.zero_le _)); have f5 := hzk.frozen 5 (.inr (Nat.zero_le _))
          have k0 := hblk.cell 0; have k1 := hblk.cell 1; have k2 := hblk.cell 2; have k3 := hblk.cell 3; have k4 := hblk.cell 4; have k5 := hblk.cell 5
          have g1 := hblk.frozen 1 (.inr (Nat.zero_le _)); have g5 := hblk.frozen 5 (.inr (Nat.zero_le _))
          have n1 : ¬ b = w.heap.size + 1 := by omega
          have n2 : ¬ w.heap.size + 1 = b := by omega
          have n3 : ¬ b = w.heap.size := by omega
          have n4 : ¬ w.heap.size = b := by omega
          have HBLK := Lib.hid hblk
          have HROW := Lib.hid hrow
          have HOWN := Lib.hid hown
          have HBL := Lib.hid hbl
          obtain ⟨na, hna⟩ : ∃ na, (uniqA (shortA x.attrs)).length = na := ⟨_, rfl⟩
          rw [hna] at k3
          have HNA := Lib.hid hna
          clear hblk hrow hown hbl hzk HM hna
          have hb0 : w.heap.size ≤ b := by omega
          have HB0 : Hid (w.heap.size ≤ b) := hb0
          have HNR : Hid (∀ g, (Value.slice A' (uniqA (shortA x.attrs)).length c').ownBlock = some g → ¬ (g = b ∨ g = w.heap.size + 1)) := fun g hg e => by
            rcases e with rfl | e
            · exact HOWN.out hg
            · have := (HROW.out.lt g hg).1; omega
          have HBW : Hid (Below w.heap.size w wc) := HBR.out.trans (HBL.out.mono HBR.out.size)
          rw [HNA.out] at HROW HOWN HNR
          clear hb0
          cases hsv : x.svg with
          | true =>
            rw [hsv] at c3
            have hel : elemL x = ⟨3, 2, nm, uniqA (shortA x.attrs), ⟨#[]⟩⟩ := by unfold elemL; rw [hsv, HNE.out]; rfl
            have hek : elemK x = .nil := by unfold elemK; rw [if_neg]; rw [hsv]; simp
            have HEL := Lib.hid hel
            have HEK := Lib.hid hek
            clear hsv hel hek
            go_wp2_with fail
            refine bodyPost_ret (v := .agg #[.int .i64 3, .int .i64 2, .string nm, .slice A' na c', .string ⟨#[]⟩, .slice none 0 0]) (by simp [results, Tryd.results20, go_sem, r0, r1, r2, r3, r4, r5]) rfl ?_
            have hrow := owns_but HROW.out (set_set6_but wc b (w.heap.size + 1) 1 (.int .i64 2) (.int .i64 3) (.int .i64 2) (.string nm) (.slice A' na c') (.string ⟨#[]⟩) (.slice none 0 0)) HNR.out
            refine ⟨⟨A', c', none, 0⟩, ?_, ?_, by rw [HEK.out]; exact FitK.nil _ _, ?_⟩
            · rw [HEL.out, HEK.out, ← HNA.out]; rfl
            · rw [HEL.out, HEK.out]
              refine ⟨?_, RdF.nil _ _ _ (Nat.zero_le _)⟩
              exact rdA_of_own hrow HNA.out
            · exact set6_below (HBW.out.setCell (p := ⟨b, 1, none⟩) HB0.out _) (Nat.le_succ _) _ _ _ _ _ _
          | false =>
            rw [hsv] at c3
            have hel : elemL x = ⟨3, 1, nm, uniqA (shortA x.attrs), ⟨#[]⟩⟩ := by unfold elemL; rw [hsv, HNE.out]; rfl
            have HEL := Lib.hid hel
            cases htm : (nm.toList == [116, 101, 109, 112, 108, 97, 116, 101]) with
            | false =>
              have hek : elemK x = .nil := by
                unfold elemK
                rw [if_neg]
                rintro ⟨_, h⟩
                rw [HNE.out] at h
                rw [h] at htm
                revert htm
                decide +kernel
              have HEK := Lib.hid hek
              clear hsv hel hek
              go_wp2_with fail
              refine bodyPost_ret (v := .agg #[.int .i64 3, .int .i64 1, .string nm, .slice A' na c', .string ⟨#[]⟩, .slice none 0 0]) (by simp [results, Tryd.results20, go_sem, r0, r1, r2, r3, r4, r5]) rfl ?_
              have hrow := owns_but HROW.out (set6_but wc (w.heap.size + 1) (.int .i64 3) (.int .i64 1) (.string nm) (.slice A' na c') (.string ⟨#[]⟩) (.slice none 0 0)) (fun g hg e => HNR.out g hg (.inr e))
              refine ⟨⟨A', c', none, 0⟩, ?_, ?_, by rw [HEK.out]; exact FitK.nil _ _, ?_⟩
              · rw [HEL.out, HEK.out, ← HNA.out]; rfl
              · rw [HEL.out, HEK.out]
                refine ⟨?_, RdF.nil _ _ _ (Nat.zero_le _)⟩
                exact rdA_of_own hrow HNA.out
              · exact set6_below HBW.out (Nat.le_succ _) _ _ _ _ _ _
            | true =>
              have hek : elemK x = .cons contL .nil .nil := by
                unfold elemK
                rw [if_pos]
                refine ⟨hsv, ?_⟩
                rw [HNE.out, beq_iff_eq.1 htm]
                decide +kernel
              have HEK := Lib.hid hek
              have hxb := HBLK.out.lt
              clear hsv hel hek
              have hba : Below wc.heap.size wc (wc.alloc (.cells #[.int .i64 6, .int .i64 0, .string ⟨#[]⟩, .slice none 0 0, .string ⟨#[]⟩, .slice none 0 0] 25)) := (Below.refl _ _).alloc (Nat.le_refl _) _
              have hzk := (HZB.out.keep HBL.out).keep hba
              have s0 := hzk.cell 0; have s1 := hzk.cell 1; have s2 := hzk.cell 2; have s3 := hzk.cell 3; have s4 := hzk.cell 4; have s5 := hzk.cell 5
              have e0 := hzk.frozen 0 (.inr (Nat.zero_le _)); have e1' := hzk.frozen 1 (.inr (Nat.zero_le _)); have e2' := hzk.frozen 2 (.inr (Nat.zero_le _)); have e3 := hzk.frozen 3 (.inr (Nat.zero_le _)); have e4 := hzk.frozen 4 (.inr (Nat.zero_le _)); have e5 := hzk.frozen 5 (.inr (Nat.zero_le _))
              have hbk := HBLK.out.keep hba
              rw [HNA.out] at hbk
              have j0 := hbk.cell 0; have j1 := hbk.cell 1; have j2 := hbk.cell 2; have j3 := hbk.cell 3; have j4 := hbk.cell 4; have j5 := hbk.cell 5
              have i5 := hbk.frozen 5 (.inr (Nat.zero_le _))
              have hz6 : Blk (((((((wc.setCell ⟨b, 5, none⟩ (.slice (some ⟨wc.heap.size, 0, none⟩) 1 1)).setCell ⟨w.heap.size + 1, 0, none⟩ (.int .i64 3)).setCell ⟨w.heap.size + 1, 1, none⟩ (.int .i64 1)).setCell ⟨w.heap.size + 1, 2, none⟩ (.string nm)).setCell ⟨w.heap.size + 1, 3, none⟩ (.slice A' na c')).setCell ⟨w.heap.size + 1, 4, none⟩ (.string ⟨#[]⟩)).setCell ⟨w.heap.size + 1, 5, none⟩ (.slice (some ⟨wc.heap.size, 0, none⟩) 1 1)) (w.heap.size + 1) 25 #[.int .i64 3, .int .i64 1, .string nm, .slice A' na c', .string ⟨#[]⟩, .slice (some ⟨wc.heap.size, 0, none⟩) 1 1] (0, 0) := set6_blk ((HZB.out.keep HBL.out).far (p := ⟨b, 5, none⟩) n2 _) _ _ _ _ _ _
              have hsz : (((((((wc.setCell ⟨b, 5, none⟩ (.slice (some ⟨wc.heap.size, 0, none⟩) 1 1)).setCell ⟨w.heap.size + 1, 0, none⟩ (.int .i64 3)).setCell ⟨w.heap.size + 1, 1, none⟩ (.int .i64 1)).setCell ⟨w.heap.size + 1, 2, none⟩ (.string nm)).setCell ⟨w.heap.size + 1, 3, none⟩ (.slice A' na c')).setCell ⟨w.heap.size + 1, 4, none⟩ (.string ⟨#[]⟩)).setCell ⟨w.heap.size + 1, 5, none⟩ (.slice (some ⟨wc.heap.size, 0, none⟩) 1 1)).heap.size = wc.heap.size := by simp [World.setCell]
              have hcb := Blk.new (((((((wc.setCell ⟨b, 5, none⟩ (.slice (some ⟨wc.heap.size, 0, none⟩) 1 1)).setCell ⟨w.heap.size + 1, 0, none⟩ (.int .i64 3)).setCell ⟨w.heap.size + 1, 1, none⟩ (.int .i64 1)).setCell ⟨w.heap.size + 1, 2, none⟩ (.string nm)).setCell ⟨w.heap.size + 1, 3, none⟩ (.slice A' na c')).setCell ⟨w.heap.size + 1, 4, none⟩ (.string ⟨#[]⟩)).setCell ⟨w.heap.size + 1, 5, none⟩ (.slice (some ⟨wc.heap.size, 0, none⟩) 1 1)) 25 #[.int .i64 6, .int .i64 0, .string ⟨#[]⟩, .slice none 0 0, .string ⟨#[]⟩, .slice none 0 0] (0, 0)
              rw [hsz] at hcb
              have hbt := set_set6_but wc b (w.heap.size + 1) 5 (.slice (some ⟨wc.heap.size, 0, none⟩) 1 1) (.int .i64 3) (.int .i64 1) (.string nm) (.slice A' na c') (.string ⟨#[]⟩) (.slice (some ⟨wc.heap.size, 0, none⟩) 1 1)
              have hrow := owns_but HROW.out (hbt.alloc (.cells #[.int .i64 6, .int .i64 0, .string ⟨#[]⟩, .slice none 0 0, .string ⟨#[]⟩, .slice none 0 0] 25)) HNR.out
              have hbel : Below w.heap.size w ((((((((wc.setCell ⟨b, 5, none⟩ (.slice (some ⟨wc.heap.size, 0, none⟩) 1 1)).setCell ⟨w.heap.size + 1, 0, none⟩ (.int .i64 3)).setCell ⟨w.heap.size + 1, 1, none⟩ (.int .i64 1)).setCell ⟨w.heap.size + 1, 2, none⟩ (.string nm)).setCell ⟨w.heap.size + 1, 3, none⟩ (.slice A' na c')).setCell ⟨w.heap.size + 1, 4, none⟩ (.string ⟨#[]⟩)).setCell ⟨w.heap.size + 1, 5, none⟩ (.slice (some ⟨wc.heap.size, 0, none⟩) 1 1)).alloc (.cells #[.int .i64 6, .int .i64 0, .string ⟨#[]⟩, .slice none 0 0, .string ⟨#[]⟩, .slice none 0 0] 25)) := (set6_below (HBW.out.setCell (p := ⟨b, 5, none⟩) HB0.out _) (Nat.le_succ _) _ _ _ _ _ _).alloc (by rw [hsz]; exact HBW.out.size) _
              have HZ7 := Lib.hid (hz6.alloc (.cells #[.int .i64 6, .int .i64 0, .string ⟨#[]⟩, .slice none 0 0, .string ⟨#[]⟩, .slice none 0 0] 25))
              have HCB := Lib.hid hcb
              have HRW := Lib.hid hrow
              have HBE := Lib.hid hbel
              have hzl2 := (HZB.out.keep HBL.out).lt
              clear hzk hbk hba hz6 hsz hcb hbt hrow hbel
              go_wp2_with fail
              have z0 := HZ7.out.cell 0; have z1 := HZ7.out.cell 1; have z2 := HZ7.out.cell 2; have z3 := HZ7.out.cell 3; have z4 := HZ7.out.cell 4; have z5 := HZ7.out.cell 5
              obtain ⟨wz, hwz⟩ : ∃ wz, (((((((wc.setCell ⟨b, 5, none⟩ (.slice (some ⟨wc.heap.size, 0, none⟩) 1 1)).setCell ⟨w.heap.size + 1, 0, none⟩ (.int .i64 3)).setCell ⟨w.heap.size + 1, 1, none⟩ (.int .i64 1)).setCell ⟨w.heap.size + 1, 2, none⟩ (.string nm)).setCell ⟨w.heap.size + 1, 3, none⟩ (.slice A' na c')).setCell ⟨w.heap.size + 1, 4, none⟩ (.string ⟨#[]⟩)).setCell ⟨w.heap.size + 1, 5, none⟩ (.slice (some ⟨wc.heap.size, 0, none⟩) 1 1)).alloc (.cells #[.int .i64 6, .int .i64 0, .string ⟨#[]⟩, .slice none 0 0, .string ⟨#[]⟩, .slice none 0 0] 25) = wz := ⟨_, rfl⟩
              rw [hwz]
              rw [hwz] at z0 z1 z2 z3 z4 z5 HCB HRW HBE
              refine bodyPost_ret (v := .agg #[.int .i64 3, .int .i64 1, .string nm, .slice A' na c', .string ⟨#[]⟩, .slice (some ⟨wc.heap.size, 0, none⟩) 1 1]) (by simp [results, Tryd.results20, go_sem, z0, z1, z2, z3, z4, z5]) rfl ?_
              refine ⟨⟨A', c', some ⟨wc.heap.size, 0, none⟩, 1⟩, ?_, ?_, by rw [HEK.out]; exact .inr ⟨rfl, Nat.zero_lt_one⟩, HBE.out⟩
              · rw [HEL.out, HEK.out, ← HNA.out]; rfl
              · rw [HEL.out, HEK.out]
                exact ⟨rdA_of_own HRW.out HNA.out, rdF_block (f := .cons contL .nil .nil) HCB.out (Cells.cons_iff.2 ⟨⟨none, 0, none, 0⟩, [], rfl, ⟨RdA.nil _, RdF.nil _ _ _ (Nat.zero_le _)⟩, rfl⟩) (Nat.le_refl 1) (show (1 : Nat) ≤ maxLen by decide)⟩
end Go.Proofs.YtojpedgfllgbcaaDoor
