/- The reference's Inner and one. -/
import Derived.Test.YtojpedgfllgbcaaDoorSerN
import Derived.Test.YtojpedgfllgbcaaDoorSerB
namespace Go.Proofs.YtojpedgfllgbcaaDoor
open Go.RowKit Go.BigFrame

/-- What the reference's Inner is owed at a node. -/
def InnerOk (w : World) (l : Lab) (k : Fo) (q : Parts) (scr : Bool) : Prop :=
  Calls Tryd.prog 46 #[valP l k.len q, .bool scr] w fun e w' => e = .returned (.string (S (innerF scr l k))) ∧ Below w.heap.size w w'

set_option maxHeartbeats 4000000 in
set_option maxRecDepth 100000 in
theorem rone_of (w : World) (l : Lab) (k : Fo) (q : Parts) (scr raw : Bool) (h : PartsOk w l k q) (hsz : wl l + wF k ≤ 240000) (HR : ∀ w', Below w.heap.size w w' → InnerOk w' l k q scr) :
    Calls Tryd.prog 62 #[valP l k.len q, .bool scr, .bool raw] w fun e w' => e = .returned (.string (S (nodeF raw l (innerF scr l k)))) ∧ Below w.heap.size w w' := by
  have hb0 : Below w.heap.size w (w.alloc (.cells #[.int .i64 l.kind, .int .i64 l.ns, .string l.name, .slice q.A l.attrs.length q.c, .string l.text, .slice q.K k.len q.d] 25)) := (Below.refl _ _).alloc (Nat.le_refl _) _
  have hB : Blk (w.alloc (.cells #[.int .i64 l.kind, .int .i64 l.ns, .string l.name, .slice q.A l.attrs.length q.c, .string l.text, .slice q.K k.len q.d] 25)) w.heap.size 25 #[.int .i64 l.kind, .int .i64 l.ns, .string l.name, .slice q.A l.attrs.length q.c, .string l.text, .slice q.K k.len q.d] (0, 0) := Blk.new w _ _ _
  have hwl : wl l = 40 + 2 * l.name.size + 6 * l.text.size + wA l.attrs := rfl
  have hnm : l.name.size ≤ 240000 := by omega
  have htx : l.text.size ≤ 40000 := by omega
  have HB0 := Lib.hid hb0
  have HB := Lib.hid hB
  have HA := Lib.hid h.1
  have HRR := Lib.hid HR
  have hib := outF_len scr k (verbL scr l) (tmplL l)
  obtain ⟨E, hE⟩ : ∃ E, S (innerF scr l k) = E := ⟨_, rfl⟩
  have hEs : E.size ≤ 240000 := by
    rw [← hE, size_S]
    unfold innerF
    omega
  have HIN : Hid (∀ w', Below w.heap.size w w' → Calls Tryd.prog 46 #[.agg #[.int .i64 l.kind, .int .i64 l.ns, .string l.name, .slice q.A l.attrs.length q.c, .string l.text, .slice q.K k.len q.d], .bool scr] w' fun e w'' => e = .returned (.string E) ∧ Below w'.heap.size w' w'') := fun w' hb => by
    have := HR w' hb
    unfold InnerOk at this
    rw [hE] at this
    exact this
  have HE := Lib.hid hE
  clear hb0 hB h HR hib hE hwl HRR
  unfold valP
  by_cases hk4 : l.kind = 4
  · rw [hk4]
    rw [hk4] at HB0 HB HIN
    cases raw with
    | true =>
      go_enter Tryd.func62, Tryd.ntmps62
      go_wp2_with fail
      go_ret
      exact ⟨ret_strR (by unfold nodeF; rw [if_pos hk4, if_pos rfl]; try rfl), HB0.out⟩
    | false =>
      have HES := fun W => Lib.hid (rescape_any l.text false W (by omega))
      go_enter Tryd.func62, Tryd.ntmps62
      go_wp2_with (go_at_call 26; with_reducible refine (HES _).out.mono ?_; rintro e w1 ⟨rfl, rfl⟩)
      go_ret
      exact ⟨ret_strR (by unfold nodeF; rw [if_pos hk4, if_neg (by simp)]; try rfl), HB0.out⟩
  by_cases hk5 : l.kind = 5
  · rw [hk5]
    rw [hk5] at HB0 HB HIN
    go_enter Tryd.func62, Tryd.ntmps62
    go_wp2_with fail
    go_ret
    exact ⟨ret_strR (by unfold nodeF; rw [if_neg hk4, if_pos hk5, B_appR, B_appR]; rfl), HB0.out⟩
  by_cases hk2 : l.kind = 2
  · rw [hk2]
    rw [hk2] at HB0 HB HIN
    go_enter Tryd.func62, Tryd.ntmps62
    go_wp2_with fail
    go_ret
    exact ⟨ret_strR (by unfold nodeF; rw [if_neg hk4, if_neg hk5, if_pos hk2, B_appR, B_appR]; rfl), HB0.out⟩
  by_cases hk6 : l.kind = 6
  · rw [hk6]
    rw [hk6] at HB0 HB HIN
    have HI := Lib.hid (HIN.out _ HB0.out)
    go_enter Tryd.func62, Tryd.ntmps62
    go_wp2_with (go_at_call 46; with_reducible refine HI.out.mono ?_; rintro e w1 ⟨rfl, hb1⟩)
    go_ret
    exact ⟨ret_strR (by unfold nodeF; rw [if_neg hk4, if_neg hk5, if_neg hk2, if_pos hk6, ← HE.out]; try rfl), HB0.out.trans (hb1.mono HB0.out.size)⟩
  by_cases hk3 : l.kind = 3
  · rw [hk3]
    rw [hk3] at HB0 HB HIN
    obtain ⟨wT, hwT⟩ : ∃ wT, w.alloc (.cells #[.int .i64 3, .int .i64 l.ns, .string l.name, .slice q.A l.attrs.length q.c, .string l.text, .slice q.K k.len q.d] 25) = wT := ⟨_, rfl⟩
    have hzT : wT.heap.size = w.heap.size + 1 := by rw [← hwT]; simp
    have HBT : Hid (Below w.heap.size w wT) := hwT ▸ HB0.out
    have HBB : Hid (Blk wT w.heap.size 25 #[.int .i64 3, .int .i64 l.ns, .string l.name, .slice q.A l.attrs.length q.c, .string l.text, .slice q.K k.len q.d] (0, 0)) := hwT ▸ HB.out
    obtain ⟨n, hn⟩ : ∃ n, l.attrs.length = n := ⟨_, rfl⟩
    have hnl := wA_len l.attrs
    rw [hn] at HBB HA hnl
    have HNN := Lib.hid hn
    have HC : Hid (∀ W, Below wT.heap.size wT W → W.cell? ⟨w.heap.size, 0, none⟩ = some (.int .i64 3) ∧ W.cell? ⟨w.heap.size, 1, none⟩ = some (.int .i64 l.ns) ∧ W.cell? ⟨w.heap.size, 2, none⟩ = some (.string l.name) ∧ W.cell? ⟨w.heap.size, 3, none⟩ = some (.slice q.A n q.c) ∧ W.cell? ⟨w.heap.size, 4, none⟩ = some (.string l.text) ∧ W.cell? ⟨w.heap.size, 5, none⟩ = some (.slice q.K k.len q.d)) := fun W hb => by
      have h := HBB.out.keep hb
      exact ⟨h.cell 0, h.cell 1, h.cell 2, h.cell 3, h.cell 4, h.cell 5⟩
    have hwA : wA l.attrs ≤ 240000 := by unfold wl at hsz; omega
    obtain ⟨A, hAA⟩ : ∃ A, q.A = A := ⟨_, rfl⟩
    rw [hAA] at HC HA HIN HBB hwT
    rw [hAA, hn]
    rw [hn] at HIN hwT
    clear hAA hn
    have HWT := Lib.hid hwT
    have HZT := Lib.hid hzT
    clear hwT hzT HB HB0
    go_enter Tryd.func62, Tryd.ntmps62
    go_wp2_with fail
    go_loopw [7, 8] (fun sv iv wr => ∃ (j : Nat) (o : ByteArray), j ≤ n ∧ iv = .int .i64 j ∧ sv = .string o ∧ B o = [60] ++ B l.name ++ attrsL (l.attrs.take j) ∧ Below wT.heap.size wT wr) (fun _ iv _ => n - (intOf iv).toNat)
    case atStart => exact ⟨0, _, Nat.zero_le _, rfl, rfl, by rw [B_appR]; exact (List.append_nil _).symm, by have hq := HWT.out; subst hq; exact Below.refl _ _⟩
    case round =>
      obtain ⟨j, o, hj, rfl, rfl, ho, hb⟩ := hrel
      have hos : o.size ≤ 600000 := by
        have h1 := attrsL_len (l.attrs.take j)
        have h2 := wA_take l.attrs j
        rw [size_B, ho]
        simp only [List.length_append, List.length_singleton, ← size_B]
        omega
      have HO := Lib.hid ho
      have HBR := Lib.hid hb
      clear ho hb
      obtain ⟨c0, c1, c2, c3, c4, c5⟩ := HC.out wr HBR.out
      by_cases hlt : j < n
      · have d0 : decide ((j : Int) < (n : Int)) = true := decide_eq_true (by omega)
        have i1 : IntKind.i64.wrap ((j : Int) + 1) = (j : Int) + 1 := IntWalk.i64_in _ (by omega)
        obtain ⟨x, hx⟩ : ∃ x, l.attrs[j]? = some x := ⟨_, List.getElem?_eq_getElem (by rw [HNN.out]; omega)⟩
        obtain ⟨ad, hA, x0, x1⟩ := rdA_at HA.out hx
        rw [hA] at c3
        clear hA
        have y0 : ∀ nn : After wr, nn.W.cell? (ad.add (j * 2)) = some (.string x.name) := fun nn => cell_keep nn.below (cell_keep HBR.out (cell_keep HBT.out x0))
        have y1 : ∀ nn : After wr, nn.W.cell? { ad.add (j * 2) with off := (ad.add (j * 2)).off + 1, spot := none } = some (.string x.val) := fun nn => cell_keep nn.below (cell_keep HBR.out (cell_keep HBT.out x1))
        have y3 : ∀ nn : After wr, nn.W.cell? ⟨w.heap.size, 3, none⟩ = some (.slice (some ad) n q.c) := fun nn => cell_keep nn.below c3
        have hxs := attrsL_at hx
        have HX := Lib.hid hx
        have hes := escT_len true _ (B x.val) (Nat.le_refl _)
        rw [← size_B, ← size_S] at hes
        have hE := fun W => rescape_any x.val true W (by omega)
        obtain ⟨F, hF⟩ : ∃ F, S (escT true (B x.val)) = F := ⟨_, rfl⟩
        rw [hF] at hE hes
        have HE := Lib.hid hE
        have HFF := Lib.hid hF
        have hF1 : F.size ≤ 240000 := by omega
        have hx1 : x.name.size ≤ 240000 := by omega
        clear hE hF hes hxs hx x0 x1
        go_upto_region 18 with (fail)
        have b1 : ¬ (9223372036854775807 < o.size + 1) := by omega
        have b2 : ¬ (9223372036854775807 < o.size + 1 + x.name.size) := by omega
        have b3 : ¬ (9223372036854775807 < o.size + 1 + x.name.size + 2) := by omega
        have b4 : ¬ (9223372036854775807 < o.size + 1 + x.name.size + 2 + F.size) := by omega
        have b5 : ¬ (9223372036854775807 < o.size + 1 + x.name.size + 2 + F.size + 1) := by omega
        refine wp_region_after (by kernel_rfl) (by kernel_rfl) ?_
        repeat (any_goals (go_big_quiet_step ((go_at_call 26; with_reducible exact call_same (HE.out _)))))
        refine wpQuiet_nil ?_
        rintro w' ⟨nn, rfl⟩
        go_wp2_with fail
        go_roundw
        case measure => simp [intOf]; omega
        case rel =>
        refine ⟨j + 1, _, by omega, by go_num, rfl, ?_, HBR.out.trans (nn.below.mono HBR.out.size)⟩
        rw [attrsL_take HX.out, B_appR, B_appR, B_appR, B_appR, B_appR, HO.out, ← HFF.out]
        simp only [attrL, List.append_assoc]
        rfl
      · have d0 : decide ((j : Int) < (n : Int)) = false := decide_eq_false (by omega)
        obtain rfl : j = n := by omega
        have hl : l.attrs.take j = l.attrs := List.take_of_length_le (by rw [HNN.out]; exact Nat.le_refl _)
        have ho := HO.out
        rw [hl] at ho
        have HOO : Hid (B (o ++ ⟨#[62]⟩) = openL l) := by
          show _ = _
          rw [B_appR, ho]; rfl
        have hsh := shutL_len l
        clear hl ho
        cases hns : (l.ns == 1)
        · have hcl : closed l = false := by unfold closed; rw [hns]; rfl
          have HNF : Hid (nodeF raw l (innerF scr l k) = openL l ++ (innerF scr l k ++ shutL l)) := by
            show _ = _
            unfold nodeF; rw [if_neg hk4, if_neg hk5, if_neg hk2, if_neg hk6, if_pos hk3, hcl]; simp
          clear hcl hk2 hk4 hk5 hk6 hk3
          go_upto_region 22 with (fail)
          have yc : ∀ nn : After wr, nn.W.cell? ⟨w.heap.size, 0, none⟩ = some (.int .i64 3) ∧ nn.W.cell? ⟨w.heap.size, 1, none⟩ = some (.int .i64 l.ns) ∧ nn.W.cell? ⟨w.heap.size, 2, none⟩ = some (.string l.name) ∧ nn.W.cell? ⟨w.heap.size, 3, none⟩ = some (.slice A j q.c) ∧ nn.W.cell? ⟨w.heap.size, 4, none⟩ = some (.string l.text) ∧ nn.W.cell? ⟨w.heap.size, 5, none⟩ = some (.slice q.K k.len q.d) := fun nn => HC.out _ (HBR.out.trans (nn.below.mono HBR.out.size))
          have y0 := fun nn => (yc nn).1
          have y1 := fun nn => (yc nn).2.1
          have y2 := fun nn => (yc nn).2.2.1
          have y3 := fun nn => (yc nn).2.2.2.1
          have y4 := fun nn => (yc nn).2.2.2.2.1
          have y5 := fun nn => (yc nn).2.2.2.2.2
          have hI : ∀ nn : After wr, _ := fun nn => HIN.out nn.W (HBT.out.trans ((HBR.out.trans (nn.below.mono HBR.out.size)).mono HBT.out.size))
          have HI := Lib.hid hI
          clear yc hI
          have b1 : ¬ (9223372036854775807 < o.size + 1 + E.size) := by omega
          have b2 : ¬ (9223372036854775807 < o.size + 1 + E.size + 2) := by omega
          have b3 : ¬ (9223372036854775807 < o.size + 1 + E.size + 2 + l.name.size) := by omega
          have b4 : ¬ (9223372036854775807 < o.size + 1 + E.size + 2 + l.name.size + 1) := by omega
          refine wp_region_after (by kernel_rfl) (by kernel_rfl) ?_
          repeat (any_goals (go_big_quiet_step ((go_at_call 46; with_reducible exact call_after (HI.out _)))))
          refine wpQuiet_nil ?_
          rintro w' ⟨nn, rfl⟩
          go_wp2_with fail
          go_ret
          refine ⟨ret_strR ?_, HBT.out.trans ((HBR.out.trans (nn.below.mono HBR.out.size)).mono HBT.out.size)⟩
          rw [HNF.out, B_appR, B_appR, B_appR, B_appR, HOO.out, ← HE.out]
          simp only [shutL, List.append_assoc]
          rfl
        · cases hv : isNm l.name voidN
          · have hcl : closed l = false := by unfold closed; rw [hns, hv]; rfl
            have HNF : Hid (nodeF raw l (innerF scr l k) = openL l ++ (innerF scr l k ++ shutL l)) := by
              show _ = _
              unfold nodeF; rw [if_neg hk4, if_neg hk5, if_neg hk2, if_neg hk6, if_pos hk3, hcl]; simp
            clear hcl hk2 hk4 hk5 hk6 hk3
            go_upto_region 22 with (go_at_call 82; with_reducible refine (rvoid_any _ l.name).mono ?_; rw [hv]; rintro e w7 ⟨rfl, hb7⟩; have HB7 := Lib.hid (HBR.out.trans (hb7.mono HBR.out.size)); clear hb7)
            have yc : ∀ nn : After w7, nn.W.cell? ⟨w.heap.size, 0, none⟩ = some (.int .i64 3) ∧ nn.W.cell? ⟨w.heap.size, 1, none⟩ = some (.int .i64 l.ns) ∧ nn.W.cell? ⟨w.heap.size, 2, none⟩ = some (.string l.name) ∧ nn.W.cell? ⟨w.heap.size, 3, none⟩ = some (.slice A j q.c) ∧ nn.W.cell? ⟨w.heap.size, 4, none⟩ = some (.string l.text) ∧ nn.W.cell? ⟨w.heap.size, 5, none⟩ = some (.slice q.K k.len q.d) := fun nn => HC.out _ (HB7.out.trans (nn.below.mono HB7.out.size))
            have y0 := fun nn => (yc nn).1
            have y1 := fun nn => (yc nn).2.1
            have y2 := fun nn => (yc nn).2.2.1
            have y3 := fun nn => (yc nn).2.2.2.1
            have y4 := fun nn => (yc nn).2.2.2.2.1
            have y5 := fun nn => (yc nn).2.2.2.2.2
            have hI : ∀ nn : After w7, _ := fun nn => HIN.out nn.W (HBT.out.trans ((HB7.out.trans (nn.below.mono HB7.out.size)).mono HBT.out.size))
            have HI := Lib.hid hI
            clear yc hI
            have b1 : ¬ (9223372036854775807 < o.size + 1 + E.size) := by omega
            have b2 : ¬ (9223372036854775807 < o.size + 1 + E.size + 2) := by omega
            have b3 : ¬ (9223372036854775807 < o.size + 1 + E.size + 2 + l.name.size) := by omega
            have b4 : ¬ (9223372036854775807 < o.size + 1 + E.size + 2 + l.name.size + 1) := by omega
            refine wp_region_after (by kernel_rfl) (by kernel_rfl) ?_
            repeat (any_goals (go_big_quiet_step ((go_at_call 46; with_reducible exact call_after (HI.out _)))))
            refine wpQuiet_nil ?_
            rintro w' ⟨nn, rfl⟩
            go_wp2_with fail
            go_ret
            refine ⟨ret_strR ?_, HBT.out.trans ((HB7.out.trans (nn.below.mono HB7.out.size)).mono HBT.out.size)⟩
            rw [HNF.out, B_appR, B_appR, B_appR, B_appR, HOO.out, ← HE.out]
            simp only [shutL, List.append_assoc]
            rfl
          · have hcl : closed l = true := by unfold closed; rw [hns, hv]; rfl
            have HNF : Hid (nodeF raw l (innerF scr l k) = openL l) := by
              show _ = _
              unfold nodeF; rw [if_neg hk4, if_neg hk5, if_neg hk2, if_neg hk6, if_pos hk3, hcl]; simp
            go_wp2_with (go_at_call 82; with_reducible refine (rvoid_any _ l.name).mono ?_; rw [hv]; rintro e w7 ⟨rfl, hb7⟩)
            go_ret
            exact ⟨ret_strR (by rw [HNF.out]; exact HOO.out), HBT.out.trans ((HBR.out.trans (hb7.mono HBR.out.size)).mono HBT.out.size)⟩
  · have k2 : (l.kind == 2) = false := by simpa using hk2
    have k3 : (l.kind == 3) = false := by simpa using hk3
    have k4 : (l.kind == 4) = false := by simpa using hk4
    have k5 : (l.kind == 5) = false := by simpa using hk5
    have k6 : (l.kind == 6) = false := by simpa using hk6
    have hnf : nodeF raw l (innerF scr l k) = [] := by unfold nodeF; rw [if_neg hk4, if_neg hk5, if_neg hk2, if_neg hk6, if_neg hk3]
    rw [hnf]
    clear hk2 hk3 hk4 hk5 hk6 hnf
    go_enter Tryd.func62, Tryd.ntmps62
    go_wp2_with fail
    go_ret
    exact ⟨rfl, HB0.out⟩
end Go.Proofs.YtojpedgfllgbcaaDoor
