/- UtfLines. -/
import Derived.Test.YtpdbbpmkdkjppaaDoorUtfH
import Derived.Test.YtpdbbpmkdkjppaaDoorArgInts
namespace Go.Proofs.YtpdbbpmkdkjppaaDoor
open Go.RowKit

set_option maxHeartbeats 8000000 in
set_option maxRecDepth 100000 in
theorem walk_UtfLines (A0 : Option Addr) (c0 : Nat) (a0 : List ByteArray) (A1 : Option Addr) (c1 : Nat) (a1 : List Int) (W : World) (hT : Tabs W) (h0 : RdT W A0 c0 a0) (hs0 : ∀ x ∈ a0, x.size ≤ maxLen) (h1 : Rd W A1 a1.length 1 (a1.flatMap enc_int)) (_hc1 : a1.length ≤ c1) (_hm1 : c1 ≤ maxLen) :
    Calls Tryd.prog 7 #[.slice A0 a0.length c0, .slice A1 a1.length c1] W fun e w' => e = .returned (.bool true) ∧ Below W.heap.size W w' := by
  have H0 := Lib.hid h0
  have H1 := Lib.hid h1
  have HT := Lib.hid hT
  have HS0 := Lib.hid hs0
  have hm0 := h0.2.2
  have hl0m : a0.length ≤ 9223372036854775807 := Nat.le_trans h0.2.1 hm0
  have hl1m : a1.length ≤ 9223372036854775807 := Nat.le_trans _hc1 _hm1
  clear h0 h1 hT hs0 hm0 _hc1 _hm1
  obtain ⟨n0, hn0⟩ : ∃ n, a0.length = n := ⟨_, rfl⟩
  obtain ⟨n1, hn1⟩ : ∃ n, a1.length = n := ⟨_, rfl⟩
  rw [hn0] at hl0m
  rw [hn1] at hl1m
  rw [hn1] at H1
  rw [hn0, hn1]
  have HN0 := Lib.hid hn0
  have HN1 := Lib.hid hn1
  clear hn0 hn1
  go_enter Tryd.func7, Tryd.ntmps7
  go_upto_block 0 with (fail)
  go_cut [5, 6] (fun av bv wx => ∃ (A Bl : List Int) (ta tb : ByteArray), av = .string ta ∧ bv = .string tb ∧ LinesU A Bl ∧ B ta = encI A ∧ B tb = encI Bl ∧ ta.size ≤ 2000 ∧ tb.size ≤ 2000 ∧ Below W.heap.size W wx)
  case first =>
    go_wp2_with fail
    go_loopw [5, 6, 7] (fun av bv iv wr => ∃ (i : Nat) (A Bl : List Int) (ta tb : ByteArray), i ≤ n0 ∧ i ≤ 12 ∧ iv = .int .i64 i ∧ av = .string ta ∧ bv = .string tb ∧ LinesU A Bl ∧ B ta = encI A ∧ B tb = encI Bl ∧ ta.size ≤ 1 + 90 * i ∧ tb.size ≤ 1 + 90 * i ∧ Below W.heap.size W wr) (fun _ _ iv _ => n0 - (intOf iv).toNat)
    case atStart => exact ⟨0, [120], [120], ⟨#[120]⟩, ⟨#[120]⟩, Nat.zero_le _, by omega, rfl, rfl, rfl, .base, by decide +kernel, by decide +kernel, by decide, by decide, Below.refl _ _⟩
    case round =>
      obtain ⟨i, A, Bl, ta, tb, hi, hi12, rfl, rfl, rfl, hlu, has, hbs, hza, hzb, hb⟩ := hrel
      have HLU := Lib.hid hlu
      have HAS := Lib.hid has
      have HBS := Lib.hid hbs
      have HB := Lib.hid hb
      clear hlu has hbs hb
      by_cases hlt : i < n0 ∧ i < 12
      · obtain ⟨hlt, hlt2⟩ := hlt
        have hi1 : i < a0.length := by rw [HN0.out]; exact hlt
        obtain ⟨xl, hx⟩ : ∃ x, a0[i]? = some x := ⟨_, List.getElem?_eq_getElem hi1⟩
        obtain ⟨b1, o1, eA, hc⟩ := (H0.out.keep HB.out).cell (by omega)
        have k1 := hc i xl hx
        have d0 : decide ((i : Int) < (n0 : Int)) = true := decide_eq_true (by omega)
        have d1 : decide ((i : Int) < 12) = true := decide_eq_true (by omega)
        have s1 : IntKind.i64.wrap ((i : Int) + 1) = (i : Int) + 1 := IntWalk.i64_in _ (by omega)
        have hhd : Calls Tryd.prog 16 #[.string xl, .int .i64 20] wr fun e w' => e = .returned (.string (headB xl 20)) ∧ wr = w' := headU_any xl 20 wr (by have := HS0.out xl (List.mem_of_getElem? hx); unfold maxLen at this; omega)
        have hhs := headB_le xl 20
        obtain ⟨hs, hhs2⟩ : ∃ s, headB xl 20 = s := ⟨_, rfl⟩
        rw [hhs2] at hhd hhs
        have HHD := Lib.hid hhd
        subst eA
        clear hx hi1 hc hhs2 hhd
        obtain ⟨wo, hwo⟩ : ∃ wo : World, wo = wr := ⟨_, rfl⟩
        subst hwo
        have HBi := HB
        go_wp2_with (first
          | (go_at_call 16; with_reducible refine HHD.out.mono ?_; rintro e w' ⟨rfl, rfl⟩))
        go_loopw [8] (fun xv wr => ∃ (pos k : Nat) (x : ByteArray) (rs : List Int), wr = wo.iter hs pos ∧ k ≤ pos ∧ k ≤ 20 ∧ x.size ≤ 4 * k ∧ B x = encI rs ∧ CleanR rs ∧ xv = .string x) (fun _ wr => hs.size - wr.iterPos wo.heap.size)
        case atStart => exact ⟨0, 0, ⟨#[]⟩, [], rfl, Nat.le_refl _, by omega, Nat.le_refl 0, rfl, (fun x hx => absurd hx (by simp)), rfl⟩
        case round =>
          obtain ⟨pos, k, x, rs, rfl, hk, hk20, hxs, hxr, hcl, rfl⟩ := hrel
          by_cases hp : pos < hs.size
          · have hnx : ∀ ty, (Instr.next (.pointer (some ⟨wo.heap.size, 0, none⟩)) true ty).run Tryd.prog (wo.iter hs pos) = _ := fun ty => run_next_any wo hs pos ty hp
            have hwd := width_oneU hs pos hp
            have hgr := decode_good hs pos
            generalize (Utf8.decode hs pos).1 = r at *
            generalize (Utf8.decode hs pos).2 = wd at *
            have hes := encode_size_le (r : Int)
            have hsum : x.size + (Utf8.encode (r : Int)).size ≤ 9223372036854775807 := by omega
            have HXR := Lib.hid hxr
            have HCL := Lib.hid hcl
            have HGR := Lib.hid hgr
            clear hxr hcl hgr
            by_cases hbad : r = 10 ∨ r = 13 ∨ r = 0
            · have hcase : ((r : Int) != 10) = false ∨ (((r : Int) != 10) = true ∧ ((r : Int) != 13) = false) ∨ (((r : Int) != 10) = true ∧ ((r : Int) != 13) = true ∧ ((r : Int) != 0) = false) := by
                rcases hbad with rfl | rfl | rfl <;> decide
              clear hbad
              rcases hcase with e1 | ⟨e1, e2⟩ | ⟨e1, e2, e3⟩
              all_goals
                go_wp2_with fail
                exact ⟨⟨pos + wd, k, x, rs, rfl, by omega, hk20, hxs, HXR.out, HCL.out, rfl⟩, by simp; omega⟩
            · have e1 : ((r : Int) != 10) = true := by rw [bne_iff_ne]; omega
              have e2 : ((r : Int) != 13) = true := by rw [bne_iff_ne]; omega
              have e3 : ((r : Int) != 0) = true := by rw [bne_iff_ne]; omega
              have HZ2 : Hid ((x ++ Utf8.encode (r : Int)).size ≤ 4 * (k + 1)) := by show _ ≤ _; rw [ByteArray.size_append]; omega
              have HX2 : Hid (B (x ++ Utf8.encode (r : Int)) = encI (rs ++ [(r : Int)])) := by
                show _ = _
                rw [app_BU, HXR.out, encI_app, encI_cons, encI_nil, List.append_nil]
              have HC2 : Hid (CleanR (rs ++ [(r : Int)])) := by
                show CleanR _
                intro y hy
                rcases List.mem_append.1 hy with hy | hy
                · exact HCL.out y hy
                · rw [List.mem_singleton.1 hy]
                  exact ⟨⟨r, HGR.out, rfl⟩, by omega, by omega, by omega⟩
              go_wp2_with fail
              exact ⟨⟨pos + wd, k + 1, _, _, rfl, by omega, by omega, HZ2.out, HX2.out, HC2.out, rfl⟩, by simp; omega⟩
          · have hnx : ∀ ty, (Instr.next (.pointer (some ⟨wo.heap.size, 0, none⟩)) true ty).run Tryd.prog (wo.iter hs pos) = _ := fun ty => run_next_end wo hs pos ty hp
            have hxl : x.size ≤ 80 := by omega
            have HXR := Lib.hid hxr
            have HCL := Lib.hid hcl
            have hz1 : (ta ++ x : ByteArray).size = ta.size + x.size := ByteArray.size_append
            have hz2 : (ta ++ x ++ ⟨#[122]⟩ : ByteArray).size = ta.size + x.size + 1 := by rw [ByteArray.size_append, hz1]; rfl
            have hy1 : (tb ++ x : ByteArray).size = tb.size + x.size := ByteArray.size_append
            have q1 : ta.size + x.size ≤ 9223372036854775807 := by omega
            have q2 : (ta ++ x : ByteArray).size + (⟨#[122]⟩ : ByteArray).size ≤ 9223372036854775807 := by rw [hz1]; show ta.size + x.size + 1 ≤ _; omega
            have r1 : tb.size + x.size ≤ 9223372036854775807 := by omega
            have r2 : (tb ++ x : ByteArray).size + (⟨#[122, 10]⟩ : ByteArray).size ≤ 9223372036854775807 := by rw [hy1]; show tb.size + x.size + 2 ≤ _; omega
            have HBS2 : Hid (B (tb ++ x ++ ⟨#[122, 10]⟩) = encI (Bl ++ (rs ++ [122, 10]))) := by
              show _ = _
              rw [app_BU, app_BU, HBS.out, hxr, encI_app, encI_app]
              simp only [List.append_assoc]
              rfl
            have HZB : Hid ((tb ++ x ++ ⟨#[122, 10]⟩).size ≤ 1 + 90 * (i + 1)) := by show _ ≤ _; rw [ByteArray.size_append, hy1]; show tb.size + x.size + 2 ≤ _; omega
            have hbi := HBi.out.trans ((iter_belowU wo hs pos).mono HBi.out.size)
            have HBE := Lib.hid (hbi.alloc hbi.size (.cells #[.string ⟨#[10]⟩, .string ⟨#[13, 10]⟩, .string ⟨#[13]⟩] 9))
            clear hxr hcl
            by_cases hie : i < n1
            · have t0 : decide ((i : Int) < (n1 : Int)) = true := decide_eq_true (by omega)
              have hi1e : i < a1.length := by rw [HN1.out]; exact hie
              obtain ⟨v, hv⟩ : ∃ v, a1[i]? = some v := ⟨_, List.getElem?_eq_getElem hi1e⟩
              obtain ⟨ad1, rfl, hc1⟩ := (H1.out.keep hbi).2.2 (by omega)
              have ke := hc1 i _ (by have := row_at encOk_int a1 i 0 v _ hv rfl; simpa using this)
              obtain ⟨E, hE⟩ : ∃ E, withinI v 0 2 = E := ⟨_, rfl⟩
              have hEb := withinI_bd v 0 2 (by decide)
              have HWI := Lib.hid (withinU_any v 0 2 (wo.iter hs pos) (by decide) (by decide) (by decide))
              rw [hE] at HWI hEb
              clear hc1 hv hi1e hE hbi
              rcases (by omega : E = 0 ∨ E = 1 ∨ E = 2) with rfl | rfl | rfl
              · have q3 : (ta ++ x ++ ⟨#[122]⟩ : ByteArray).size + (⟨#[10]⟩ : ByteArray).size ≤ 9223372036854775807 := by rw [hz2]; show ta.size + x.size + 1 + 1 ≤ _; omega
                have HLN : Hid (LinesU (A ++ (rs ++ 122 :: endU 0)) (Bl ++ (rs ++ [122, 10]))) := .step 0 HLU.out HCL.out
                have HAS2 : Hid (B (ta ++ x ++ ⟨#[122]⟩ ++ ⟨#[10]⟩) = encI (A ++ (rs ++ 122 :: endU 0))) := by
                  show _ = _
                  rw [app_BU, app_BU, app_BU, HAS.out, HXR.out, encI_app, encI_app, show (122 : Int) = ((122 : Nat) : Int) from rfl, enc_low (by decide)]
                  simp only [List.append_assoc]
                  rfl
                have HZA : Hid ((ta ++ x ++ ⟨#[122]⟩ ++ ⟨#[10]⟩).size ≤ 1 + 90 * (i + 1)) := by show _ ≤ _; rw [ByteArray.size_append, hz2]; show ta.size + x.size + 1 + 1 ≤ _; omega
                go_wp2_with (go_at_call 17; with_reducible refine HWI.out.mono ?_; rintro e w' ⟨rfl, rfl⟩)
                exact ⟨⟨i + 1, _, _, _, _, by omega, by omega, by go_num, by first | exact True.intro | rfl, by first | exact True.intro | rfl, HLN.out, HAS2.out, HBS2.out, HZA.out, HZB.out, HBE.out⟩, by simp [intOf]; omega⟩
              · have q3 : (ta ++ x ++ ⟨#[122]⟩ : ByteArray).size + (⟨#[13, 10]⟩ : ByteArray).size ≤ 9223372036854775807 := by rw [hz2]; show ta.size + x.size + 1 + 2 ≤ _; omega
                have HLN : Hid (LinesU (A ++ (rs ++ 122 :: endU 1)) (Bl ++ (rs ++ [122, 10]))) := .step 1 HLU.out HCL.out
                have HAS2 : Hid (B (ta ++ x ++ ⟨#[122]⟩ ++ ⟨#[13, 10]⟩) = encI (A ++ (rs ++ 122 :: endU 1))) := by
                  show _ = _
                  rw [app_BU, app_BU, app_BU, HAS.out, HXR.out, encI_app, encI_app, show (122 : Int) = ((122 : Nat) : Int) from rfl, enc_low (by decide)]
                  simp only [List.append_assoc]
                  rfl
                have HZA : Hid ((ta ++ x ++ ⟨#[122]⟩ ++ ⟨#[13, 10]⟩).size ≤ 1 + 90 * (i + 1)) := by show _ ≤ _; rw [ByteArray.size_append, hz2]; show ta.size + x.size + 1 + 2 ≤ _; omega
                go_wp2_with (go_at_call 17; with_reducible refine HWI.out.mono ?_; rintro e w' ⟨rfl, rfl⟩)
                exact ⟨⟨i + 1, _, _, _, _, by omega, by omega, by go_num, by first | exact True.intro | rfl, by first | exact True.intro | rfl, HLN.out, HAS2.out, HBS2.out, HZA.out, HZB.out, HBE.out⟩, by simp [intOf]; omega⟩
              · have q3 : (ta ++ x ++ ⟨#[122]⟩ : ByteArray).size + (⟨#[13]⟩ : ByteArray).size ≤ 9223372036854775807 := by rw [hz2]; show ta.size + x.size + 1 + 1 ≤ _; omega
                have HLN : Hid (LinesU (A ++ (rs ++ 122 :: endU 2)) (Bl ++ (rs ++ [122, 10]))) := .step 2 HLU.out HCL.out
                have HAS2 : Hid (B (ta ++ x ++ ⟨#[122]⟩ ++ ⟨#[13]⟩) = encI (A ++ (rs ++ 122 :: endU 2))) := by
                  show _ = _
                  rw [app_BU, app_BU, app_BU, HAS.out, HXR.out, encI_app, encI_app, show (122 : Int) = ((122 : Nat) : Int) from rfl, enc_low (by decide)]
                  simp only [List.append_assoc]
                  rfl
                have HZA : Hid ((ta ++ x ++ ⟨#[122]⟩ ++ ⟨#[13]⟩).size ≤ 1 + 90 * (i + 1)) := by show _ ≤ _; rw [ByteArray.size_append, hz2]; show ta.size + x.size + 1 + 1 ≤ _; omega
                go_wp2_with (go_at_call 17; with_reducible refine HWI.out.mono ?_; rintro e w' ⟨rfl, rfl⟩)
                exact ⟨⟨i + 1, _, _, _, _, by omega, by omega, by go_num, by first | exact True.intro | rfl, by first | exact True.intro | rfl, HLN.out, HAS2.out, HBS2.out, HZA.out, HZB.out, HBE.out⟩, by simp [intOf]; omega⟩
            · have t0 : decide ((i : Int) < (n1 : Int)) = false := decide_eq_false (by omega)
              clear hbi
              have q3 : (ta ++ x ++ ⟨#[122]⟩ : ByteArray).size + (⟨#[10]⟩ : ByteArray).size ≤ 9223372036854775807 := by rw [hz2]; show ta.size + x.size + 1 + 1 ≤ _; omega
              have HLN : Hid (LinesU (A ++ (rs ++ 122 :: endU 0)) (Bl ++ (rs ++ [122, 10]))) := .step 0 HLU.out HCL.out
              have HAS2 : Hid (B (ta ++ x ++ ⟨#[122]⟩ ++ ⟨#[10]⟩) = encI (A ++ (rs ++ 122 :: endU 0))) := by
                show _ = _
                rw [app_BU, app_BU, app_BU, HAS.out, HXR.out, encI_app, encI_app, show (122 : Int) = ((122 : Nat) : Int) from rfl, enc_low (by decide)]
                simp only [List.append_assoc]
                rfl
              have HZA : Hid ((ta ++ x ++ ⟨#[122]⟩ ++ ⟨#[10]⟩).size ≤ 1 + 90 * (i + 1)) := by show _ ≤ _; rw [ByteArray.size_append, hz2]; show ta.size + x.size + 1 + 1 ≤ _; omega
              go_wp2_with fail
              exact ⟨⟨i + 1, _, _, _, _, by omega, by omega, by go_num, by first | exact True.intro | rfl, by first | exact True.intro | rfl, HLN.out, HAS2.out, HBS2.out, HZA.out, HZB.out, HBE.out⟩, by simp [intOf]; omega⟩
      · have hcase : (decide ((i : Int) < (n0 : Int)) = false ∧ ¬ i < n0) ∨ (decide ((i : Int) < (n0 : Int)) = true ∧ decide ((i : Int) < 12) = false ∧ i < n0 ∧ ¬ i < 12) := by
          by_cases h1 : i < n0
          · exact .inr ⟨decide_eq_true (by omega), decide_eq_false (by omega), h1, by omega⟩
          · exact .inl ⟨decide_eq_false (by omega), h1⟩
        clear hlt
        rcases hcase with ⟨d0, m0⟩ | ⟨d0, d1, m0, m1⟩
        all_goals
          go_wp2_with fail
          go_meet
          exact ⟨A, Bl, ta, tb, rfl, rfl, HLU.out, HAS.out, HBS.out, by omega, by omega, HB.out⟩
  case rest =>
    obtain ⟨A, Bl, ta, tb, rfl, rfl, hlu, has, hbs, hza, hzb, hb⟩ := hcut
    have HB := Lib.hid hb
    have hsb : S (encI Bl) = tb := by rw [← hbs, S_B]
    have q1 : (⟨#[239, 187, 191]⟩ : ByteArray).size + ta.size ≤ 9223372036854775807 := by show 3 + ta.size ≤ _; omega
    have kc := fun (w : World) (s : ByteArray) => (show (convert 9 23 (.string s)).run Tryd.prog w = .ok (.slice (some ⟨w.heap.size, 0, none⟩) s.size (grownCap w s.size 0 5)) (bytesW w s) from run_bytes_of_string (P := Tryd.prog) w 9 23 5 s Tryd.underlying9 Tryd.underlying23 Tryd.underlying5)
    have hbw := hb.trans ((bytesW_below wc ta).mono hb.size)
    have hp := prepare_any (bytesW wc ta) _ _ (B ta) (bytesW_rd wc ta (by omega)) (by rw [← size_B]; omega) (HT.out.keep hbw)
    rw [← size_B, has, lines_ready hlu, hsb] at hp
    have HP := Lib.hid hp
    have HBw := Lib.hid hbw
    obtain ⟨ta2, hta2⟩ : ∃ s : ByteArray, s = ⟨#[239, 187, 191]⟩ ++ ta := ⟨_, rfl⟩
    have hz2 : ta2.size ≤ 3000 := by rw [hta2, ByteArray.size_append]; show 3 + ta.size ≤ _; omega
    have HPU2 : Hid (S (prepU (B ta2)) = tb) := by
      show _ = _
      rw [hta2, app_BU, has]
      show S (prepU ([239, 187, 191] ++ encI A)) = tb
      rw [lines_ready2 hlu, hsb]
    have HA2 := Lib.hid hta2
    have HZ3 : Hid (ta2.size = 3 + ta.size) := by show _ = _; rw [hta2, ByteArray.size_append]; rfl
    clear hlu has hbs hsb hb hbw hp hta2
    go_wp2_with (first
      | (go_at_call 13
         with_reducible refine HP.out.mono ?_
         rintro e w2 ⟨rfl, hb2⟩
         have HB2 := Lib.hid (HBw.out.trans (hb2.mono HBw.out.size))
         have hbw := HB2.out.trans ((bytesW_below w2 ta2).mono HB2.out.size)
         have hp := prepare_any (bytesW w2 ta2) _ _ (B ta2) (bytesW_rd w2 ta2 (by omega)) (by rw [← size_B]; omega) (HT.out.keep hbw)
         rw [← size_B, HPU2.out] at hp
         have HBw2 := Lib.hid hbw
         rw [HZ3.out, HA2.out] at hp
         have HP2 := Lib.hid hp
         clear hb2 hbw hp HP)
      | (go_at_call 13
         with_reducible refine HP2.out.mono ?_
         rintro e w3 ⟨rfl, hb3⟩
         have hbw2 := HBw2.out
         rw [HA2.out] at hbw2
         have HB3 := Lib.hid (hbw2.trans (hb3.mono hbw2.size))
         have HK := Lib.hid (known_any w3 (HT.out.keep HB3.out))
         clear hb3 hbw2)
      | (go_at_call 9
         with_reducible refine HK.out.mono ?_
         rintro e w4 ⟨rfl, hb4⟩
         have HB4 := Lib.hid (HB3.out.trans (hb4.mono HB3.out.size))
         clear hb4))
    go_ret
    exact ⟨rfl, HB4.out⟩
end Go.Proofs.YtpdbbpmkdkjppaaDoor
