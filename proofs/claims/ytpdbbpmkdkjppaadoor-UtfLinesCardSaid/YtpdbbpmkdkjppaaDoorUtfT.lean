/- The reference's Prepare. -/
import Derived.Test.YtpdbbpmkdkjppaaDoorUtfR
import Derived.Deep.CutBlock
import Derived.Deep.DeepCutAuto
namespace Go.Proofs.YtpdbbpmkdkjppaaDoor
open Go.RowKit

theorem step_cut {t : List Int} (h : t.head? = some 10) : stepR 13 t = [] := by unfold stepR; rw [if_pos rfl, if_pos h]
theorem step_ten {t : List Int} (h : t.head? ≠ some 10) : stepR 13 t = [10] := by unfold stepR; rw [if_pos rfl, if_neg h]
theorem step_nul (t : List Int) : stepR 0 t = [65533] := by unfold stepR; rw [if_neg (by decide), if_pos rfl]
theorem step_old {x : Int} (t : List Int) (h1 : x ≠ 13) (h2 : x ≠ 0) : stepR x t = [x] := by unfold stepR; rw [if_neg h1, if_neg h2]
theorem mark_at (l : List UInt8) : markU l = (decide (3 ≤ l.length) && (l[0]? == some 239) && (l[1]? == some 187) && (l[2]? == some 191)) := by
  unfold markU Lib.hasPrefix
  rcases l with _ | ⟨a, _ | ⟨b, _ | ⟨c, t⟩⟩⟩
  · rfl
  · simp [List.isPrefixOf]
  · simp [List.isPrefixOf]
  · simp only [List.isPrefixOf, Bool.and_true, List.length_cons, List.getElem?_cons_zero, List.getElem?_cons_succ]
    rw [show decide (3 ≤ t.length + 1 + 1 + 1) = true by simp]
    rw [Bool.eq_iff_iff]
    simp only [Bool.and_eq_true, beq_iff_eq, Option.some.injEq, Bool.true_and]
    constructor
    · rintro ⟨h1, h2, h3⟩; exact ⟨⟨h1.symm, h2.symm⟩, h3.symm⟩
    · rintro ⟨⟨h1, h2⟩, h3⟩; exact ⟨h1.symm, h2.symm, h3.symm⟩
theorem byte_ne {x : UInt8} {n : Nat} (_hn : n < 256) (h : x ≠ UInt8.ofNat n) : ((x.toNat : Int) == (n : Int)) = false := by
  rw [beq_eq_false_iff_ne]
  intro e
  apply h
  have : x.toNat = n := by omega
  rw [← this]
  exact UInt8.ofNat_toNat.symm

set_option maxHeartbeats 4000000 in
set_option maxRecDepth 100000 in
theorem prepare_ref (w : World) (A : Option Addr) (c : Nat) (l : List UInt8) (h : RdB w A c l) (hsz : l.length ≤ 100000) :
    Calls Tryd.prog 20 #[.slice A l.length c] w fun e w' => e = .returned (.string (S (prepU l))) ∧ Below w.heap.size w w' := by
  obtain ⟨i0, hi0, hz0, hz1, hz2⟩ := info_parts info_rune
  have H := Lib.hid h
  have hma := mark_at l
  have HMA := Lib.hid hma
  have hcap := h.2.1
  have hmax : c ≤ 9223372036854775807 := h.2.2
  clear h hma
  obtain ⟨n, hn⟩ : ∃ n, l.length = n := ⟨_, rfl⟩
  rw [hn] at hsz hcap HMA ⊢
  have HN := Lib.hid hn
  have HPU : Hid (prepU l = encI (prepR (decU (trimU l)))) := rfl
  have htl := trim_len l
  have hdl := dec_len _ (trimU l) (Nat.le_refl _)
  have hDl : Hid ((decU (trimU l)).length ≤ n) := by show _ ≤ _; omega
  clear hn htl hdl
  obtain ⟨mk, hmk⟩ : ∃ mk, markU l = mk := ⟨_, rfl⟩
  have HMK := Lib.hid hmk
  rw [hmk] at HMA
  clear hmk
  go_enter Tryd.func20, Tryd.ntmps20
  go_upto_region 1 with (fail)
  go_cut [26] (fun t wx => t = .bool mk ∧ w = wx)
  case first =>
    by_cases h3 : 3 ≤ n
    · have d3 : decide (3 ≤ n) = true := decide_eq_true h3
      obtain ⟨b, o, rfl, hc⟩ := H.out.cell (by rw [HN.out]; omega)
      obtain ⟨x0, e0⟩ : ∃ x, l[0]? = some x := ⟨_, List.getElem?_eq_getElem (by rw [HN.out]; omega)⟩
      obtain ⟨x1, e1⟩ : ∃ x, l[1]? = some x := ⟨_, List.getElem?_eq_getElem (by rw [HN.out]; omega)⟩
      obtain ⟨x2, e2⟩ : ∃ x, l[2]? = some x := ⟨_, List.getElem?_eq_getElem (by rw [HN.out]; omega)⟩
      have k0 := hc 0 x0 e0
      have k1 := hc 1 x1 e1
      have k2 := hc 2 x2 e2
      rw [Nat.add_zero] at k0
      rw [e0, e1, e2, d3] at HMA
      clear hc e0 e1 e2
      by_cases b0 : x0 = 239
      · subst b0
        by_cases b1 : x1 = 187
        · subst b1
          by_cases b2 : x2 = 191
          · subst b2
            have hmk : mk = true := HMA.out
            clear HMA
            subst hmk
            go_wp2_with fail
            go_meet
            exact ⟨rfl, by first | exact True.intro | rfl⟩
          · have q2 : ((x2.toNat : Int) == 191) = false := byte_ne (n := 191) (by decide) b2
            have hmk : mk = false := by rw [HMA.out]; simp [b2]
            clear HMA b2
            subst hmk
            go_wp2_with fail
            go_meet
            exact ⟨rfl, by first | exact True.intro | rfl⟩
        · have q1 : ((x1.toNat : Int) == 187) = false := byte_ne (n := 187) (by decide) b1
          have hmk : mk = false := by rw [HMA.out]; simp [b1]
          clear HMA b1
          subst hmk
          go_wp2_with fail
          go_meet
          exact ⟨rfl, by first | exact True.intro | rfl⟩
      · have q0 : ((x0.toNat : Int) == 239) = false := byte_ne (n := 239) (by decide) b0
        have hmk : mk = false := by rw [HMA.out]; simp [b0]
        clear HMA b0
        subst hmk
        go_wp2_with fail
        go_meet
        exact ⟨rfl, by first | exact True.intro | rfl⟩
    · have d3 : decide (3 ≤ n) = false := decide_eq_false h3
      have hmk : mk = false := by rw [HMA.out, d3]; rfl
      clear HMA
      subst hmk
      go_wp2_with fail
      go_meet
      exact ⟨rfl, by first | exact True.intro | rfl⟩
  case rest =>
    obtain ⟨rfl, rfl⟩ := hcut
    cases mk with
    | true =>
      have h3 : 3 ≤ n := by
        have h := Lib.hasPrefix_le (s := l) (p := [239, 187, 191]) HMK.out
        rw [HN.out] at h
        simpa using h
      obtain ⟨b, o, rfl, _⟩ := H.out.cell (by rw [HN.out]; omega)
      have hc3 : 3 ≤ c := by omega
      have et : trimU l = l.drop 3 := by unfold trimU; rw [HMK.out]; rfl
      by_cases hce : c = 3
      · subst hce
        obtain rfl : n = 3 := by omega
        have hr := H.out.drop 3 (by rw [HN.out]; exact h3) (some ⟨b, o, none⟩) (fun hl => by rw [HN.out] at hl; omega)
        have hD := decode_ref w _ _ _ hr (by rw [List.length_drop, HN.out]; omega)
        rw [List.length_drop, HN.out, ← et] at hD
        simp only [Nat.sub_self] at hD
        have HD := Lib.hid hD
        clear et hr hD HMA HMK H HN
        generalize decU (trimU l) = D at *
        have HL : Hid (∀ (w2 : World) (A3 : Option Addr) (c3 : Nat), True) := fun _ _ _ => trivial
        clear HL
        go_wp2_with (first
          | (go_at_call 19
             with_reducible refine HD.out.mono ?_
             rintro e w2 ⟨v, rfl, ho2, hb2⟩
             obtain ⟨A3, c3, rfl, hr3⟩ := ho2.rd
             have HR3 := Lib.hid hr3
             have HB2 := Lib.hid hb2
             clear ho2 hb2 hr3))
        obtain ⟨N, hNn⟩ : ∃ N, D.length = N := ⟨_, rfl⟩
        rw [hNn] at hDl ⊢
        have HNN := Lib.hid hNn
        have hNle := hDl.out
        clear hNn
        go_loopw [4, 5] (fun ov iv wr => ∃ (i : Nat) (done : List Int), i ≤ N ∧ iv = .int .i64 i ∧ OwnR wr w2.heap.size ov done ∧ done ++ prepR (D.drop i) = prepR D ∧ done.length ≤ i ∧ Below w2.heap.size w2 wr) (fun _ iv _ => N - (intOf iv).toNat)
        case atStart => exact ⟨0, [], Nat.zero_le _, rfl, World.ownsRow_nil _ _ _ _, rfl, Nat.le_refl _, Below.refl _ _⟩
        case round =>
          obtain ⟨i, done, hi, rfl, ho, he, hlen, hb⟩ := hrel
          have HO := Lib.hid ho
          have HE := Lib.hid he
          have HB := Lib.hid hb
          clear ho he hb
          by_cases hlt : i < N
          · have hi1 : i < D.length := by rw [HNN.out]; exact hlt
            obtain ⟨x, hx⟩ : ∃ x, D[i]? = some x := ⟨_, List.getElem?_eq_getElem hi1⟩
            obtain ⟨b3, o3, eA, hc⟩ := (HR3.out.keep HB.out).cell (by omega)
            have k1 := hc i x hx
            have hdr : D.drop i = x :: D.drop (i + 1) := by
              rw [List.drop_eq_getElem_cons hi1]
              congr 1
              rw [List.getElem?_eq_getElem hi1] at hx
              exact Option.some.inj hx
            have d0 : decide ((i : Int) < (N : Int)) = true := decide_eq_true (by omega)
            have s1 : IntKind.i64.wrap ((i : Int) + 1) = (i : Int) + 1 := IntWalk.i64_in _ (by omega)
            subst eA
            have HDR := Lib.hid hdr
            have HHD : Hid ((D.drop (i + 1)).head? = D[i + 1]?) := by show _ = _; rw [List.head?_drop]
            have HCC := Lib.hid hc
            clear hdr hx hi1 hc
            by_cases hx13 : x = 13
            · subst hx13
              by_cases hl1 : i + 1 < N
              · have d1 : decide ((i : Int) + 1 < (N : Int)) = true := decide_eq_true (by omega)
                obtain ⟨y, hy⟩ : ∃ y, D[i + 1]? = some y := ⟨_, List.getElem?_eq_getElem (by rw [HNN.out]; exact hl1)⟩
                have k2 := HCC.out (i + 1) y hy
                rw [hy] at HHD
                clear hy
                by_cases hy10 : y = 10
                · subst hy10
                  have HST := Lib.hid (show done ++ prepR (D.drop (i + 1)) = prepR D by rw [← HE.out, HDR.out, prepR_cons, step_cut HHD.out]; rfl)
                  go_wp2_with fail
                  exact ⟨⟨i + 1, done, by omega, by go_num, HO.out, HST.out, by omega, HB.out⟩, by simp [intOf]; omega⟩
                · have q2 : (y == 10) = false := by rw [beq_eq_false_iff_ne]; exact hy10
                  have HNH : Hid ((D.drop (i + 1)).head? ≠ some 10) := by show _ ≠ _; rw [HHD.out]; simpa using hy10
                  clear hy10
                  have HBF := Lib.hid (show Below w2.heap.size w2 (wr.alloc (.cells #[.int .i32 10] 21)) from HB.out.alloc HB.out.size _)
                  have HOF := Lib.hid (ownR_alloc HO.out (.cells #[.int .i32 10] 21))
                  have HRF := Lib.hid (rd_one_r wr 10)
                  have HST := Lib.hid (show done ++ [10] ++ prepR (D.drop (i + 1)) = prepR D by rw [← HE.out, HDR.out, prepR_cons, step_ten HNH.out, List.append_assoc])
                  go_wp2_with (first
                    | (at_builtin
                       refine append_made w2 _ rfl (.tmp 71) (.tmp 72) _ rfl 21 i0 _ 1 4 Tryd.underlying26 hi0 hz0 hz1 hz2 rfl (by omega) _ _ _ rfl HOF.out (some ⟨wr.heap.size, 0, none⟩) 1 1 _ rfl HRF.out (by simp only [maxLen]; omega) (by omega) HBF.out ?_
                       intro v2 w4 hown2 hb3 hg2
                       have HO3 := Lib.hid (ownR_app hown2)
                       have HB3 := Lib.hid hb3
                       clear hown2 hb3 hg2))
                  exact ⟨⟨i + 1, _, by omega, by go_num, HO3.out, HST.out, by simp; omega, HB3.out⟩, by simp [intOf]; omega⟩
              · have d1 : decide ((i : Int) + 1 < (N : Int)) = false := decide_eq_false (by omega)
                have HNH : Hid ((D.drop (i + 1)).head? ≠ some 10) := by
                  show _ ≠ _
                  rw [List.drop_eq_nil_of_le (by rw [HNN.out]; omega)]
                  simp
                have HBF := Lib.hid (show Below w2.heap.size w2 (wr.alloc (.cells #[.int .i32 10] 21)) from HB.out.alloc HB.out.size _)
                have HOF := Lib.hid (ownR_alloc HO.out (.cells #[.int .i32 10] 21))
                have HRF := Lib.hid (rd_one_r wr 10)
                have HST := Lib.hid (show done ++ [10] ++ prepR (D.drop (i + 1)) = prepR D by rw [← HE.out, HDR.out, prepR_cons, step_ten HNH.out, List.append_assoc])
                go_wp2_with (first
                  | (at_builtin
                     refine append_made w2 _ rfl (.tmp 71) (.tmp 72) _ rfl 21 i0 _ 1 4 Tryd.underlying26 hi0 hz0 hz1 hz2 rfl (by omega) _ _ _ rfl HOF.out (some ⟨wr.heap.size, 0, none⟩) 1 1 _ rfl HRF.out (by simp only [maxLen]; omega) (by omega) HBF.out ?_
                     intro v2 w4 hown2 hb3 hg2
                     have HO3 := Lib.hid (ownR_app hown2)
                     have HB3 := Lib.hid hb3
                     clear hown2 hb3 hg2))
                exact ⟨⟨i + 1, _, by omega, by go_num, HO3.out, HST.out, by simp; omega, HB3.out⟩, by simp [intOf]; omega⟩
            · have q1 : (x == 13) = false := by rw [beq_eq_false_iff_ne]; exact hx13
              by_cases hx0 : x = 0
              · subst hx0
                have HBF := Lib.hid (show Below w2.heap.size w2 (wr.alloc (.cells #[.int .i32 65533] 21)) from HB.out.alloc HB.out.size _)
                have HOF := Lib.hid (ownR_alloc HO.out (.cells #[.int .i32 65533] 21))
                have HRF := Lib.hid (rd_one_r wr 65533)
                have HST := Lib.hid (show done ++ [65533] ++ prepR (D.drop (i + 1)) = prepR D by rw [← HE.out, HDR.out, prepR_cons, step_nul, List.append_assoc])
                go_wp2_with (first
                  | (at_builtin
                     refine append_made w2 _ rfl (.tmp 80) (.tmp 81) _ rfl 21 i0 _ 1 4 Tryd.underlying26 hi0 hz0 hz1 hz2 rfl (by omega) _ _ _ rfl HOF.out (some ⟨wr.heap.size, 0, none⟩) 1 1 _ rfl HRF.out (by simp only [maxLen]; omega) (by omega) HBF.out ?_
                     intro v2 w4 hown2 hb3 hg2
                     have HO3 := Lib.hid (ownR_app hown2)
                     have HB3 := Lib.hid hb3
                     clear hown2 hb3 hg2))
                exact ⟨⟨i + 1, _, by omega, by go_num, HO3.out, HST.out, by simp; omega, HB3.out⟩, by simp [intOf]; omega⟩
              · have q2 : (x == 0) = false := by rw [beq_eq_false_iff_ne]; exact hx0
                have HX13 := Lib.hid hx13
                have HX0 := Lib.hid hx0
                clear hx13 hx0
                have HBF := Lib.hid (show Below w2.heap.size w2 (wr.alloc (.cells #[.int .i32 x] 21)) from HB.out.alloc HB.out.size _)
                have HOF := Lib.hid (ownR_alloc HO.out (.cells #[.int .i32 x] 21))
                have HRF := Lib.hid (rd_one_r wr x)
                have HST := Lib.hid (show done ++ [x] ++ prepR (D.drop (i + 1)) = prepR D by rw [← HE.out, HDR.out, prepR_cons, step_old _ HX13.out HX0.out, List.append_assoc])
                go_wp2_with (first
                  | (at_builtin
                     refine append_made w2 _ rfl (.tmp 37) (.tmp 42) _ rfl 21 i0 _ 1 4 Tryd.underlying26 hi0 hz0 hz1 hz2 rfl (by omega) _ _ _ rfl HOF.out (some ⟨wr.heap.size, 0, none⟩) 1 1 _ rfl HRF.out (by simp only [maxLen]; omega) (by omega) HBF.out ?_
                     intro v2 w4 hown2 hb3 hg2
                     have HO3 := Lib.hid (ownR_app hown2)
                     have HB3 := Lib.hid hb3
                     clear hown2 hb3 hg2))
                exact ⟨⟨i + 1, _, by omega, by go_num, HO3.out, HST.out, by simp; omega, HB3.out⟩, by simp [intOf]; omega⟩
          · have d0 : decide ((i : Int) < (N : Int)) = false := decide_eq_false (by omega)
            have he := HE.out
            rw [List.drop_eq_nil_of_le (by rw [HNN.out]; omega)] at he
            have HPR := Lib.hid (show done = prepR D by rw [← he]; exact (List.append_nil _).symm)
            clear he
            obtain ⟨A4, c4, e4, hr4⟩ := HO.out.rd
            subst e4
            have HEN := Lib.hid (encode_ref wr A4 c4 done hr4 (by omega))
            clear hr4
            generalize done.length = dl at *
            go_wp2_with (first | (go_at_call 12; with_reducible refine HEN.out.mono ?_; rintro e w' ⟨rfl, rfl⟩))
            go_ret
            refine ⟨ret_strU ?_, HB2.out.trans (HB.out.mono HB2.out.size)⟩
            rw [HPU.out, HPR.out]
      · have hcb : (c == 3) = false := by rw [beq_eq_false_iff_ne]; exact hce
        have hr := H.out.drop 3 (by rw [HN.out]; exact h3) (some ⟨b, o + 3, none⟩) (fun hl => rfl)
        have hD := decode_ref w _ _ _ hr (by rw [List.length_drop, HN.out]; omega)
        rw [List.length_drop, HN.out, ← et] at hD
        have HD := Lib.hid hD
        clear et hr hD HMA HMK H HN
        generalize decU (trimU l) = D at *
        have HL : Hid (∀ (w2 : World) (A3 : Option Addr) (c3 : Nat), True) := fun _ _ _ => trivial
        clear HL
        go_wp2_with (first
          | (go_at_call 19
             with_reducible refine HD.out.mono ?_
             rintro e w2 ⟨v, rfl, ho2, hb2⟩
             obtain ⟨A3, c3, rfl, hr3⟩ := ho2.rd
             have HR3 := Lib.hid hr3
             have HB2 := Lib.hid hb2
             clear ho2 hb2 hr3))
        obtain ⟨N, hNn⟩ : ∃ N, D.length = N := ⟨_, rfl⟩
        rw [hNn] at hDl ⊢
        have HNN := Lib.hid hNn
        have hNle := hDl.out
        clear hNn
        go_loopw [4, 5] (fun ov iv wr => ∃ (i : Nat) (done : List Int), i ≤ N ∧ iv = .int .i64 i ∧ OwnR wr w2.heap.size ov done ∧ done ++ prepR (D.drop i) = prepR D ∧ done.length ≤ i ∧ Below w2.heap.size w2 wr) (fun _ iv _ => N - (intOf iv).toNat)
        case atStart => exact ⟨0, [], Nat.zero_le _, rfl, World.ownsRow_nil _ _ _ _, rfl, Nat.le_refl _, Below.refl _ _⟩
        case round =>
          obtain ⟨i, done, hi, rfl, ho, he, hlen, hb⟩ := hrel
          have HO := Lib.hid ho
          have HE := Lib.hid he
          have HB := Lib.hid hb
          clear ho he hb
          by_cases hlt : i < N
          · have hi1 : i < D.length := by rw [HNN.out]; exact hlt
            obtain ⟨x, hx⟩ : ∃ x, D[i]? = some x := ⟨_, List.getElem?_eq_getElem hi1⟩
            obtain ⟨b3, o3, eA, hc⟩ := (HR3.out.keep HB.out).cell (by omega)
            have k1 := hc i x hx
            have hdr : D.drop i = x :: D.drop (i + 1) := by
              rw [List.drop_eq_getElem_cons hi1]
              congr 1
              rw [List.getElem?_eq_getElem hi1] at hx
              exact Option.some.inj hx
            have d0 : decide ((i : Int) < (N : Int)) = true := decide_eq_true (by omega)
            have s1 : IntKind.i64.wrap ((i : Int) + 1) = (i : Int) + 1 := IntWalk.i64_in _ (by omega)
            subst eA
            have HDR := Lib.hid hdr
            have HHD : Hid ((D.drop (i + 1)).head? = D[i + 1]?) := by show _ = _; rw [List.head?_drop]
            have HCC := Lib.hid hc
            clear hdr hx hi1 hc
            by_cases hx13 : x = 13
            · subst hx13
              by_cases hl1 : i + 1 < N
              · have d1 : decide ((i : Int) + 1 < (N : Int)) = true := decide_eq_true (by omega)
                obtain ⟨y, hy⟩ : ∃ y, D[i + 1]? = some y := ⟨_, List.getElem?_eq_getElem (by rw [HNN.out]; exact hl1)⟩
                have k2 := HCC.out (i + 1) y hy
                rw [hy] at HHD
                clear hy
                by_cases hy10 : y = 10
                · subst hy10
                  have HST := Lib.hid (show done ++ prepR (D.drop (i + 1)) = prepR D by rw [← HE.out, HDR.out, prepR_cons, step_cut HHD.out]; rfl)
                  go_wp2_with fail
                  exact ⟨⟨i + 1, done, by omega, by go_num, HO.out, HST.out, by omega, HB.out⟩, by simp [intOf]; omega⟩
                · have q2 : (y == 10) = false := by rw [beq_eq_false_iff_ne]; exact hy10
                  have HNH : Hid ((D.drop (i + 1)).head? ≠ some 10) := by show _ ≠ _; rw [HHD.out]; simpa using hy10
                  clear hy10
                  have HBF := Lib.hid (show Below w2.heap.size w2 (wr.alloc (.cells #[.int .i32 10] 21)) from HB.out.alloc HB.out.size _)
                  have HOF := Lib.hid (ownR_alloc HO.out (.cells #[.int .i32 10] 21))
                  have HRF := Lib.hid (rd_one_r wr 10)
                  have HST := Lib.hid (show done ++ [10] ++ prepR (D.drop (i + 1)) = prepR D by rw [← HE.out, HDR.out, prepR_cons, step_ten HNH.out, List.append_assoc])
                  go_wp2_with (first
                    | (at_builtin
                       refine append_made w2 _ rfl (.tmp 71) (.tmp 72) _ rfl 21 i0 _ 1 4 Tryd.underlying26 hi0 hz0 hz1 hz2 rfl (by omega) _ _ _ rfl HOF.out (some ⟨wr.heap.size, 0, none⟩) 1 1 _ rfl HRF.out (by simp only [maxLen]; omega) (by omega) HBF.out ?_
                       intro v2 w4 hown2 hb3 hg2
                       have HO3 := Lib.hid (ownR_app hown2)
                       have HB3 := Lib.hid hb3
                       clear hown2 hb3 hg2))
                  exact ⟨⟨i + 1, _, by omega, by go_num, HO3.out, HST.out, by simp; omega, HB3.out⟩, by simp [intOf]; omega⟩
              · have d1 : decide ((i : Int) + 1 < (N : Int)) = false := decide_eq_false (by omega)
                have HNH : Hid ((D.drop (i + 1)).head? ≠ some 10) := by
                  show _ ≠ _
                  rw [List.drop_eq_nil_of_le (by rw [HNN.out]; omega)]
                  simp
                have HBF := Lib.hid (show Below w2.heap.size w2 (wr.alloc (.cells #[.int .i32 10] 21)) from HB.out.alloc HB.out.size _)
                have HOF := Lib.hid (ownR_alloc HO.out (.cells #[.int .i32 10] 21))
                have HRF := Lib.hid (rd_one_r wr 10)
                have HST := Lib.hid (show done ++ [10] ++ prepR (D.drop (i + 1)) = prepR D by rw [← HE.out, HDR.out, prepR_cons, step_ten HNH.out, List.append_assoc])
                go_wp2_with (first
                  | (at_builtin
                     refine append_made w2 _ rfl (.tmp 71) (.tmp 72) _ rfl 21 i0 _ 1 4 Tryd.underlying26 hi0 hz0 hz1 hz2 rfl (by omega) _ _ _ rfl HOF.out (some ⟨wr.heap.size, 0, none⟩) 1 1 _ rfl HRF.out (by simp only [maxLen]; omega) (by omega) HBF.out ?_
                     intro v2 w4 hown2 hb3 hg2
                     have HO3 := Lib.hid (ownR_app hown2)
                     have HB3 := Lib.hid hb3
                     clear hown2 hb3 hg2))
                exact ⟨⟨i + 1, _, by omega, by go_num, HO3.out, HST.out, by simp; omega, HB3.out⟩, by simp [intOf]; omega⟩
            · have q1 : (x == 13) = false := by rw [beq_eq_false_iff_ne]; exact hx13
              by_cases hx0 : x = 0
              · subst hx0
                have HBF := Lib.hid (show Below w2.heap.size w2 (wr.alloc (.cells #[.int .i32 65533] 21)) from HB.out.alloc HB.out.size _)
                have HOF := Lib.hid (ownR_alloc HO.out (.cells #[.int .i32 65533] 21))
                have HRF := Lib.hid (rd_one_r wr 65533)
                have HST := Lib.hid (show done ++ [65533] ++ prepR (D.drop (i + 1)) = prepR D by rw [← HE.out, HDR.out, prepR_cons, step_nul, List.append_assoc])
                go_wp2_with (first
                  | (at_builtin
                     refine append_made w2 _ rfl (.tmp 80) (.tmp 81) _ rfl 21 i0 _ 1 4 Tryd.underlying26 hi0 hz0 hz1 hz2 rfl (by omega) _ _ _ rfl HOF.out (some ⟨wr.heap.size, 0, none⟩) 1 1 _ rfl HRF.out (by simp only [maxLen]; omega) (by omega) HBF.out ?_
                     intro v2 w4 hown2 hb3 hg2
                     have HO3 := Lib.hid (ownR_app hown2)
                     have HB3 := Lib.hid hb3
                     clear hown2 hb3 hg2))
                exact ⟨⟨i + 1, _, by omega, by go_num, HO3.out, HST.out, by simp; omega, HB3.out⟩, by simp [intOf]; omega⟩
              · have q2 : (x == 0) = false := by rw [beq_eq_false_iff_ne]; exact hx0
                have HX13 := Lib.hid hx13
                have HX0 := Lib.hid hx0
                clear hx13 hx0
                have HBF := Lib.hid (show Below w2.heap.size w2 (wr.alloc (.cells #[.int .i32 x] 21)) from HB.out.alloc HB.out.size _)
                have HOF := Lib.hid (ownR_alloc HO.out (.cells #[.int .i32 x] 21))
                have HRF := Lib.hid (rd_one_r wr x)
                have HST := Lib.hid (show done ++ [x] ++ prepR (D.drop (i + 1)) = prepR D by rw [← HE.out, HDR.out, prepR_cons, step_old _ HX13.out HX0.out, List.append_assoc])
                go_wp2_with (first
                  | (at_builtin
                     refine append_made w2 _ rfl (.tmp 37) (.tmp 42) _ rfl 21 i0 _ 1 4 Tryd.underlying26 hi0 hz0 hz1 hz2 rfl (by omega) _ _ _ rfl HOF.out (some ⟨wr.heap.size, 0, none⟩) 1 1 _ rfl HRF.out (by simp only [maxLen]; omega) (by omega) HBF.out ?_
                     intro v2 w4 hown2 hb3 hg2
                     have HO3 := Lib.hid (ownR_app hown2)
                     have HB3 := Lib.hid hb3
                     clear hown2 hb3 hg2))
                exact ⟨⟨i + 1, _, by omega, by go_num, HO3.out, HST.out, by simp; omega, HB3.out⟩, by simp [intOf]; omega⟩
          · have d0 : decide ((i : Int) < (N : Int)) = false := decide_eq_false (by omega)
            have he := HE.out
            rw [List.drop_eq_nil_of_le (by rw [HNN.out]; omega)] at he
            have HPR := Lib.hid (show done = prepR D by rw [← he]; exact (List.append_nil _).symm)
            clear he
            obtain ⟨A4, c4, e4, hr4⟩ := HO.out.rd
            subst e4
            have HEN := Lib.hid (encode_ref wr A4 c4 done hr4 (by omega))
            clear hr4
            generalize done.length = dl at *
            go_wp2_with (first | (go_at_call 12; with_reducible refine HEN.out.mono ?_; rintro e w' ⟨rfl, rfl⟩))
            go_ret
            refine ⟨ret_strU ?_, HB2.out.trans (HB.out.mono HB2.out.size)⟩
            rw [HPU.out, HPR.out]
    | false =>
      have et : trimU l = l := by unfold trimU; rw [HMK.out]; rfl
      have hD := decode_ref w _ _ _ H.out (by rw [HN.out]; omega)
      rw [HN.out] at hD
      have hD2 : Calls Tryd.prog 19 #[.slice A n c] w fun e w' => ∃ v, e = .returned v ∧ OwnR w' w.heap.size v (decU (trimU l)) ∧ Below w.heap.size w w' := by rw [et]; exact hD
      have HD := Lib.hid hD2
      clear et hD hD2 HMA HMK H HN
      generalize decU (trimU l) = D at *

      have HL : Hid (∀ (w2 : World) (A3 : Option Addr) (c3 : Nat), True) := fun _ _ _ => trivial
      clear HL
      go_wp2_with (first
        | (go_at_call 19
           with_reducible refine HD.out.mono ?_
           rintro e w2 ⟨v, rfl, ho2, hb2⟩
           obtain ⟨A3, c3, rfl, hr3⟩ := ho2.rd
           have HR3 := Lib.hid hr3
           have HB2 := Lib.hid hb2
           clear ho2 hb2 hr3))
      obtain ⟨N, hNn⟩ : ∃ N, D.length = N := ⟨_, rfl⟩
      rw [hNn] at hDl ⊢
      have HNN := Lib.hid hNn
      have hNle := hDl.out
      clear hNn
      go_loopw [4, 5] (fun ov iv wr => ∃ (i : Nat) (done : List Int), i ≤ N ∧ iv = .int .i64 i ∧ OwnR wr w2.heap.size ov done ∧ done ++ prepR (D.drop i) = prepR D ∧ done.length ≤ i ∧ Below w2.heap.size w2 wr) (fun _ iv _ => N - (intOf iv).toNat)
      case atStart => exact ⟨0, [], Nat.zero_le _, rfl, World.ownsRow_nil _ _ _ _, rfl, Nat.le_refl _, Below.refl _ _⟩
      case round =>
        obtain ⟨i, done, hi, rfl, ho, he, hlen, hb⟩ := hrel
        have HO := Lib.hid ho
        have HE := Lib.hid he
        have HB := Lib.hid hb
        clear ho he hb
        by_cases hlt : i < N
        · have hi1 : i < D.length := by rw [HNN.out]; exact hlt
          obtain ⟨x, hx⟩ : ∃ x, D[i]? = some x := ⟨_, List.getElem?_eq_getElem hi1⟩
          obtain ⟨b3, o3, eA, hc⟩ := (HR3.out.keep HB.out).cell (by omega)
          have k1 := hc i x hx
          have hdr : D.drop i = x :: D.drop (i + 1) := by
            rw [List.drop_eq_getElem_cons hi1]
            congr 1
            rw [List.getElem?_eq_getElem hi1] at hx
            exact Option.some.inj hx
          have d0 : decide ((i : Int) < (N : Int)) = true := decide_eq_true (by omega)
          have s1 : IntKind.i64.wrap ((i : Int) + 1) = (i : Int) + 1 := IntWalk.i64_in _ (by omega)
          subst eA
          have HDR := Lib.hid hdr
          have HHD : Hid ((D.drop (i + 1)).head? = D[i + 1]?) := by show _ = _; rw [List.head?_drop]
          have HCC := Lib.hid hc
          clear hdr hx hi1 hc
          by_cases hx13 : x = 13
          · subst hx13
            by_cases hl1 : i + 1 < N
            · have d1 : decide ((i : Int) + 1 < (N : Int)) = true := decide_eq_true (by omega)
              obtain ⟨y, hy⟩ : ∃ y, D[i + 1]? = some y := ⟨_, List.getElem?_eq_getElem (by rw [HNN.out]; exact hl1)⟩
              have k2 := HCC.out (i + 1) y hy
              rw [hy] at HHD
              clear hy
              by_cases hy10 : y = 10
              · subst hy10
                have HST := Lib.hid (show done ++ prepR (D.drop (i + 1)) = prepR D by rw [← HE.out, HDR.out, prepR_cons, step_cut HHD.out]; rfl)
                go_wp2_with fail
                exact ⟨⟨i + 1, done, by omega, by go_num, HO.out, HST.out, by omega, HB.out⟩, by simp [intOf]; omega⟩
              · have q2 : (y == 10) = false := by rw [beq_eq_false_iff_ne]; exact hy10
                have HNH : Hid ((D.drop (i + 1)).head? ≠ some 10) := by show _ ≠ _; rw [HHD.out]; simpa using hy10
                clear hy10
                have HBF := Lib.hid (show Below w2.heap.size w2 (wr.alloc (.cells #[.int .i32 10] 21)) from HB.out.alloc HB.out.size _)
                have HOF := Lib.hid (ownR_alloc HO.out (.cells #[.int .i32 10] 21))
                have HRF := Lib.hid (rd_one_r wr 10)
                have HST := Lib.hid (show done ++ [10] ++ prepR (D.drop (i + 1)) = prepR D by rw [← HE.out, HDR.out, prepR_cons, step_ten HNH.out, List.append_assoc])
                go_wp2_with (first
                  | (at_builtin
                     refine append_made w2 _ rfl (.tmp 71) (.tmp 72) _ rfl 21 i0 _ 1 4 Tryd.underlying26 hi0 hz0 hz1 hz2 rfl (by omega) _ _ _ rfl HOF.out (some ⟨wr.heap.size, 0, none⟩) 1 1 _ rfl HRF.out (by simp only [maxLen]; omega) (by omega) HBF.out ?_
                     intro v2 w4 hown2 hb3 hg2
                     have HO3 := Lib.hid (ownR_app hown2)
                     have HB3 := Lib.hid hb3
                     clear hown2 hb3 hg2))
                exact ⟨⟨i + 1, _, by omega, by go_num, HO3.out, HST.out, by simp; omega, HB3.out⟩, by simp [intOf]; omega⟩
            · have d1 : decide ((i : Int) + 1 < (N : Int)) = false := decide_eq_false (by omega)
              have HNH : Hid ((D.drop (i + 1)).head? ≠ some 10) := by
                show _ ≠ _
                rw [List.drop_eq_nil_of_le (by rw [HNN.out]; omega)]
                simp
              have HBF := Lib.hid (show Below w2.heap.size w2 (wr.alloc (.cells #[.int .i32 10] 21)) from HB.out.alloc HB.out.size _)
              have HOF := Lib.hid (ownR_alloc HO.out (.cells #[.int .i32 10] 21))
              have HRF := Lib.hid (rd_one_r wr 10)
              have HST := Lib.hid (show done ++ [10] ++ prepR (D.drop (i + 1)) = prepR D by rw [← HE.out, HDR.out, prepR_cons, step_ten HNH.out, List.append_assoc])
              go_wp2_with (first
                | (at_builtin
                   refine append_made w2 _ rfl (.tmp 71) (.tmp 72) _ rfl 21 i0 _ 1 4 Tryd.underlying26 hi0 hz0 hz1 hz2 rfl (by omega) _ _ _ rfl HOF.out (some ⟨wr.heap.size, 0, none⟩) 1 1 _ rfl HRF.out (by simp only [maxLen]; omega) (by omega) HBF.out ?_
                   intro v2 w4 hown2 hb3 hg2
                   have HO3 := Lib.hid (ownR_app hown2)
                   have HB3 := Lib.hid hb3
                   clear hown2 hb3 hg2))
              exact ⟨⟨i + 1, _, by omega, by go_num, HO3.out, HST.out, by simp; omega, HB3.out⟩, by simp [intOf]; omega⟩
          · have q1 : (x == 13) = false := by rw [beq_eq_false_iff_ne]; exact hx13
            by_cases hx0 : x = 0
            · subst hx0
              have HBF := Lib.hid (show Below w2.heap.size w2 (wr.alloc (.cells #[.int .i32 65533] 21)) from HB.out.alloc HB.out.size _)
              have HOF := Lib.hid (ownR_alloc HO.out (.cells #[.int .i32 65533] 21))
              have HRF := Lib.hid (rd_one_r wr 65533)
              have HST := Lib.hid (show done ++ [65533] ++ prepR (D.drop (i + 1)) = prepR D by rw [← HE.out, HDR.out, prepR_cons, step_nul, List.append_assoc])
              go_wp2_with (first
                | (at_builtin
                   refine append_made w2 _ rfl (.tmp 80) (.tmp 81) _ rfl 21 i0 _ 1 4 Tryd.underlying26 hi0 hz0 hz1 hz2 rfl (by omega) _ _ _ rfl HOF.out (some ⟨wr.heap.size, 0, none⟩) 1 1 _ rfl HRF.out (by simp only [maxLen]; omega) (by omega) HBF.out ?_
                   intro v2 w4 hown2 hb3 hg2
                   have HO3 := Lib.hid (ownR_app hown2)
                   have HB3 := Lib.hid hb3
                   clear hown2 hb3 hg2))
              exact ⟨⟨i + 1, _, by omega, by go_num, HO3.out, HST.out, by simp; omega, HB3.out⟩, by simp [intOf]; omega⟩
            · have q2 : (x == 0) = false := by rw [beq_eq_false_iff_ne]; exact hx0
              have HX13 := Lib.hid hx13
              have HX0 := Lib.hid hx0
              clear hx13 hx0
              have HBF := Lib.hid (show Below w2.heap.size w2 (wr.alloc (.cells #[.int .i32 x] 21)) from HB.out.alloc HB.out.size _)
              have HOF := Lib.hid (ownR_alloc HO.out (.cells #[.int .i32 x] 21))
              have HRF := Lib.hid (rd_one_r wr x)
              have HST := Lib.hid (show done ++ [x] ++ prepR (D.drop (i + 1)) = prepR D by rw [← HE.out, HDR.out, prepR_cons, step_old _ HX13.out HX0.out, List.append_assoc])
              go_wp2_with (first
                | (at_builtin
                   refine append_made w2 _ rfl (.tmp 37) (.tmp 42) _ rfl 21 i0 _ 1 4 Tryd.underlying26 hi0 hz0 hz1 hz2 rfl (by omega) _ _ _ rfl HOF.out (some ⟨wr.heap.size, 0, none⟩) 1 1 _ rfl HRF.out (by simp only [maxLen]; omega) (by omega) HBF.out ?_
                   intro v2 w4 hown2 hb3 hg2
                   have HO3 := Lib.hid (ownR_app hown2)
                   have HB3 := Lib.hid hb3
                   clear hown2 hb3 hg2))
              exact ⟨⟨i + 1, _, by omega, by go_num, HO3.out, HST.out, by simp; omega, HB3.out⟩, by simp [intOf]; omega⟩
        · have d0 : decide ((i : Int) < (N : Int)) = false := decide_eq_false (by omega)
          have he := HE.out
          rw [List.drop_eq_nil_of_le (by rw [HNN.out]; omega)] at he
          have HPR := Lib.hid (show done = prepR D by rw [← he]; exact (List.append_nil _).symm)
          clear he
          obtain ⟨A4, c4, e4, hr4⟩ := HO.out.rd
          subst e4
          have HEN := Lib.hid (encode_ref wr A4 c4 done hr4 (by omega))
          clear hr4
          generalize done.length = dl at *
          go_wp2_with (first | (go_at_call 12; with_reducible refine HEN.out.mono ?_; rintro e w' ⟨rfl, rfl⟩))
          go_ret
          refine ⟨ret_strU ?_, HB2.out.trans (HB.out.mono HB2.out.size)⟩
          rw [HPU.out, HPR.out]
end Go.Proofs.YtpdbbpmkdkjppaaDoor
