/- The reference's Decode. -/
import Derived.Test.YtpdbbpmkdkjppaaDoorUtfR0
import Derived.Laws.BitsLemmas
namespace Go.Proofs.YtpdbbpmkdkjppaaDoor
open Go.RowKit

theorem lead_bits : ∀ x < 256, ∀ k < 4, 1 ≤ k → bits .and .i32 ((x : Nat) : Int) ((63 : Int) / 2 ^ k) = (((if k = 1 then x % 32 else if k = 2 then x % 16 else x % 8) : Nat) : Int) := by decide +kernel
theorem lead_r {x k : Nat} (hx : x < 256) (h1 : 1 ≤ k) (h3 : k ≤ 3) : bits .and .i32 (x : Int) ((63 : Int) / 2 ^ k) = ((leadR x k : Nat) : Int) := lead_bits x hx k (by omega) h1
theorem lead_small {x k : Nat} (h1 : 1 ≤ k) (h3 : k ≤ 3) : leadR x k * 64 ^ k < 2097152 := by
  unfold leadR
  rcases (by omega : k = 1 ∨ k = 2 ∨ k = 3) with rfl | rfl | rfl
  · rw [if_pos rfl]; omega
  · rw [if_neg (by decide), if_pos rfl]; omega
  · rw [if_neg (by decide), if_neg (by decide)]; omega
theorem and63 (y : UInt8) : bits .and .u8 (y.toNat : Int) 63 = ((y.toNat % 64 : Nat) : Int) := by
  have := y.toNat_lt
  rw [u8_and63 _ (Int.natCast_nonneg _) (by omega)]
  omega
theorem or6 {r : Nat} (y : UInt8) (h : r < 32768) : bits .or .i32 (wrap32 ((r : Int) * 64)) ((y.toNat : Int) % 64) = ((r * 64 + y.toNat % 64 : Nat) : Int) := by
  have hy := y.toNat_lt
  have e1 : wrap32 ((r : Int) * 64) = (r : Int) * 64 := by unfold wrap32; omega
  rw [e1, i32_or6 _ _ (by omega) (by omega) (by omega) (by omega) (by omega)]
  omega
theorem small_step {r kk z : Nat} (h0 : 0 < kk) (h3 : kk ≤ 3) (h : r * 64 ^ kk < 2097152) (hz : z < 64) : r < 32768 ∧ (r * 64 + z) * 64 ^ (kk - 1) < 2097152 := by
  rcases (by omega : kk = 1 ∨ kk = 2 ∨ kk = 3) with rfl | rfl | rfl
  · simp at h ⊢; omega
  · simp at h ⊢; omega
  · simp at h ⊢; omega
set_option maxHeartbeats 4000000 in
set_option maxRecDepth 100000 in
theorem decode_ref (w : World) (A : Option Addr) (c : Nat) (l : List UInt8) (h : RdB w A c l) (hsz : l.length ≤ 1000000) :
    Calls Tryd.prog 19 #[.slice A l.length c] w fun e w' => ∃ v, e = .returned v ∧ OwnR w' w.heap.size v (decU l) ∧ Below w.heap.size w w' := by
  obtain ⟨i0, hi0, hz0, hz1, hz2⟩ := info_parts info_rune
  have H := Lib.hid h
  clear h
  obtain ⟨n, hn⟩ : ∃ n, l.length = n := ⟨_, rfl⟩
  rw [hn] at hsz ⊢
  have HN := Lib.hid hn
  clear hn
  go_enter Tryd.func19, Tryd.ntmps19
  go_wp2_with fail
  go_loopw [3, 4] (fun ov iv wr => ∃ (i : Nat) (done : List Int), i ≤ n ∧ iv = .int .i64 i ∧ OwnR wr w.heap.size ov done ∧ decU l = done ++ decU (l.drop i) ∧ done.length ≤ i ∧ Below w.heap.size w wr) (fun _ iv _ => n - (intOf iv).toNat)
  case atStart => exact ⟨0, [], Nat.zero_le _, rfl, World.ownsRow_nil _ _ _ _, rfl, Nat.le_refl _, Below.refl _ _⟩
  case round =>
    obtain ⟨i, done, hi, rfl, ho, hd, hlen, hb⟩ := hrel
    have HO := Lib.hid ho
    have HD := Lib.hid hd
    have HB := Lib.hid hb
    clear ho hd hb
    by_cases hlt : i < n
    · have hi1 : i < l.length := by rw [HN.out]; exact hlt
      obtain ⟨x, hx⟩ : ∃ x, l[i]? = some x := ⟨_, List.getElem?_eq_getElem hi1⟩
      obtain ⟨b, o, eA, hc⟩ := (H.out.keep HB.out).cell (by omega)
      have k1 := hc i x hx
      have hdr : l.drop i = x :: l.drop (i + 1) := by
        rw [List.drop_eq_getElem_cons hi1]
        congr 1
        rw [List.getElem?_eq_getElem hi1] at hx
        exact Option.some.inj hx
      have hxl := x.toNat_lt
      have hw := wrapB
      have d0 : decide ((i : Int) < (n : Int)) = true := decide_eq_true (by omega)
      have s1 : IntKind.i64.wrap ((i : Int) + 1) = (i : Int) + 1 := IntWalk.i64_in _ (by omega)
      subst eA
      have hne : l.drop i ≠ [] := by rw [hdr]; simp
      have hst := decU_step hne
      have HDR := Lib.hid hdr
      have HST := Lib.hid hst
      have HCC := Lib.hid hc
      have hdrop : ∀ k, (l.drop i).drop k = l.drop (i + k) := fun k => by rw [List.drop_drop]
      have HDD := Lib.hid hdrop
      have HL := Lib.hid (one_len hne)
      clear hdr hst hx hi1 hc hdrop
      by_cases h1 : x.toNat < 128
      · have e1 : oneU (l.drop i) = (x.toNat, 1) := by rw [HDR.out]; exact one_low h1
        have HE := Lib.hid e1
        have t1 : decide (x.toNat < 128) = true := decide_eq_true h1
        have t1i : decide ((x.toNat : Int) < 128) = true := decide_eq_true (by omega)
        have hb2 : Below w.heap.size w (wr.alloc (.cells #[.int .i32 (x.toNat : Int)] 21)) := HB.out.alloc HB.out.size _
        have HB2 := Lib.hid hb2
        have HO2 := Lib.hid (ownR_alloc HO.out (.cells #[.int .i32 (x.toNat : Int)] 21))
        have HRD := Lib.hid (rd_one_r wr (x.toNat : Int))
        clear e1 hb2 hne
        go_wp2_with (first
          | (at_builtin
             refine append_made w _ rfl (.tmp 18) (.tmp 24) _ rfl 21 i0 _ 1 4 Tryd.underlying26 hi0 hz0 hz1 hz2 rfl (by omega) _ _ _ rfl HO2.out (some ⟨wr.heap.size, 0, none⟩) 1 1 _ rfl HRD.out (by simp only [maxLen]; omega) (by omega) HB2.out ?_
             intro v2 w2 hown2 hb3 hg2
             have HO3 := Lib.hid (ownR_app hown2)
             have HB3 := Lib.hid hb3
             clear hown2 hb3 hg2))
        refine ⟨⟨i + 1, done ++ [(x.toNat : Int)], by omega, by go_num, HO3.out, ?_, by simp; omega, HB3.out⟩, by simp [intOf]; omega⟩
        rw [HD.out, HST.out, HE.out, HDD.out, List.append_assoc]
        rfl
      cases hl : leadU x.toNat with
      | none =>
        have e1 : oneU (l.drop i) = (65533, 1) := by rw [HDR.out]; exact one_none h1 hl
        have e2 : firstU x.toNat = (-1, 0, 0) := by unfold firstU; rw [hl]
        have HF := Lib.hid (first_any wr x.toNat hxl)
        rw [e2] at HF
        have HE := Lib.hid e1
        have t1 : decide (x.toNat < 128) = false := decide_eq_false h1
        have t1i : decide ((x.toNat : Int) < 128) = false := decide_eq_false (by omega)
        have hb2 : Below w.heap.size w (wr.alloc (.cells #[.int .i32 65533] 21)) := HB.out.alloc HB.out.size _
        have HB2 := Lib.hid hb2
        have HO2 := Lib.hid (ownR_alloc HO.out (.cells #[.int .i32 65533] 21))
        have HRD := Lib.hid (rd_one_r wr 65533)
        clear e1 e2 hb2 hne hl
        go_wp2_with (first
          | (go_at_call 26; with_reducible refine HF.out.mono ?_; rintro e w' ⟨rfl, rfl⟩)
          | (at_builtin
             refine append_made w _ rfl (.tmp 39) (.tmp 40) _ rfl 21 i0 _ 1 4 Tryd.underlying26 hi0 hz0 hz1 hz2 rfl (by omega) _ _ _ rfl HO2.out (some ⟨wr.heap.size, 0, none⟩) 1 1 _ rfl HRD.out (by simp only [maxLen]; omega) (by omega) HB2.out ?_
             intro v2 w2 hown2 hb3 hg2
             have HO3 := Lib.hid (ownR_app hown2)
             have HB3 := Lib.hid hb3
             clear hown2 hb3 hg2))
        refine ⟨⟨i + 1, done ++ [65533], by omega, by go_num, HO3.out, ?_, by simp; omega, HB3.out⟩, by simp [intOf]; omega⟩
        rw [HD.out, HST.out, HE.out, HDD.out, List.append_assoc]
        rfl
      | some z =>
        obtain ⟨k, lo, hi⟩ := z
        have e1 : oneU (l.drop i) = tailU k lo hi (leadR x.toNat k) 1 (l.drop (i + 1)) := by rw [HDR.out]; exact one_some hl
        have e2 : firstU x.toNat = ((k : Int), lo, hi) := by unfold firstU; rw [hl]
        have HF := Lib.hid (first_any wr x.toNat hxl)
        rw [e2] at HF
        have HE := Lib.hid e1
        have hk : 1 ≤ k ∧ k ≤ 3 := by have := lead_cases hl; omega
        obtain ⟨hk1, hk3⟩ := hk
        have t1 : decide (x.toNat < 128) = false := decide_eq_false h1
        have t1i : decide ((x.toNat : Int) < 128) = false := decide_eq_false (by omega)
        have t2 : decide ((k : Int) < 0) = false := decide_eq_false (by omega)
        have HFIN : Hid (∀ r m : Nat, oneU (l.drop i) = (r, m) → decU l = (done ++ [(r : Int)]) ++ decU (l.drop (i + m))) := by
          show ∀ r m : Nat, _ → _
          intro r m he
          rw [HD.out, HST.out, he, HDD.out, List.append_assoc]
          rfl
        have hlr := lead_r (x := x.toNat) (k := k) hxl hk1 hk3
        have HS := Lib.hid (lead_small (x := x.toNat) hk1 hk3)
        clear e1 e2 hne hl
        go_wp2_with (first
          | (go_at_call 26; with_reducible refine HF.out.mono ?_; rintro e w' ⟨rfl, rfl⟩))
        obtain ⟨r0, hr0⟩ : ∃ r0, leadR x.toNat k = r0 := ⟨_, rfl⟩
        rw [hr0] at HE HS
        clear hlr
        generalize leadR x.toNat k = r1 at *
        subst hr0
        obtain ⟨wo, rfl⟩ : ∃ wo : World, wo = wr := ⟨_, rfl⟩
        go_loopw [4, 5, 6, 7, 8] (fun pv kv lv hv rv wr => ∃ p m kk lo' hi' r' : Nat, pv = .int .i64 p ∧ kv = .int .i64 kk ∧ lv = .int .u8 lo' ∧ hv = .int .u8 hi' ∧ rv = .int .i32 r' ∧ wo = wr ∧ p = i + m ∧ 1 ≤ m ∧ p ≤ n ∧ kk ≤ 3 ∧ r' * 64 ^ kk < 2097152 ∧ oneU (l.drop i) = tailU kk lo' hi' r' m (l.drop p)) (fun _ kv _ _ _ _ => (intOf kv).toNat)
        case atStart => exact ⟨i + 1, 1, k, lo, hi, r1, by go_num, rfl, rfl, rfl, rfl, rfl, rfl, Nat.le_refl _, by omega, hk3, HS.out, HE.out⟩
        case round =>
          obtain ⟨p, m, kk, lo', hi', r', rfl, rfl, rfl, rfl, rfl, rfl, hpm, hm1, hpn, hkk, hr, he⟩ := hrel
          have HM := Lib.hid he
          have HR := Lib.hid hr
          have HPM := Lib.hid hpm
          have hpm1 : m ≤ p := by omega
          clear he hr hpm
          have s3 : IntKind.i64.wrap ((p : Int) + 1) = (p : Int) + 1 := IntWalk.i64_in _ (by omega)
          by_cases hk0 : 0 < kk
          · have c1 : decide (0 < kk) = true := decide_eq_true hk0
            by_cases hpl : p < n
            · have c2 : decide (p < n) = true := decide_eq_true hpl
              have hp1 : p < l.length := by rw [HN.out]; exact hpl
              obtain ⟨y, hy⟩ : ∃ y, l[p]? = some y := ⟨_, List.getElem?_eq_getElem hp1⟩
              have k2 := HCC.out p y hy
              have hyl := y.toNat_lt
              have s4 : IntKind.i64.wrap ((kk : Int) - 1) = (kk : Int) - 1 := IntWalk.i64_in _ (by omega)
              by_cases hyr : lo' ≤ y.toNat ∧ y.toNat ≤ hi'
              · obtain ⟨y1, y2⟩ := hyr
                have c3 : decide (lo' ≤ y.toNat) = true := decide_eq_true y1
                have c4 : decide (y.toNat ≤ hi') = true := decide_eq_true y2
                have hb1 := and63
                have hss := small_step hk0 hkk HR.out (Nat.mod_lt y.toNat (by decide : 0 < 64))
                have HSS := Lib.hid hss
                have HOR := Lib.hid (or6 y hss.1)
                have hdr2 : l.drop p = y :: l.drop (p + 1) := by
                  rw [List.drop_eq_getElem_cons hp1]
                  congr 1
                  rw [List.getElem?_eq_getElem hp1] at hy
                  exact Option.some.inj hy
                have hnx : oneU (l.drop i) = tailU (kk - 1) 128 191 (r' * 64 + y.toNat % 64) (m + 1) (l.drop (p + 1)) := by
                  rw [HM.out, hdr2]
                  obtain ⟨q, rfl⟩ : ∃ q, kk = q + 1 := ⟨kk - 1, by omega⟩
                  rw [tail_in ⟨y1, y2⟩, Nat.add_sub_cancel]
                have HNX := Lib.hid hnx
                clear hy hp1 hss hdr2 hnx
                go_wp2_with fail
                refine ⟨⟨p + 1, m + 1, kk - 1, 128, 191, r' * 64 + y.toNat % 64, by go_num, by go_num, rfl, rfl, ?_, by first | exact True.intro | rfl, ?_, by omega, by omega, by omega, HSS.out.2, HNX.out⟩, by simp [intOf]; omega⟩
                · rw [HOR.out]
                · have := HPM.out
                  omega
              · have hl2 : oneU (l.drop i) = (65533, m) := by
                  rw [HM.out, List.drop_eq_getElem_cons hp1]
                  rw [List.getElem?_eq_getElem hp1] at hy
                  rw [Option.some.inj hy]
                  obtain ⟨q, rfl⟩ : ∃ q, kk = q + 1 := ⟨kk - 1, by omega⟩
                  rw [tail_out hyr]
                have HL2 := Lib.hid hl2
                clear hy hp1 hl2
                rcases Nat.lt_or_ge y.toNat lo' with y1 | y1
                · have c3 : decide (lo' ≤ y.toNat) = false := decide_eq_false (Nat.not_le.2 y1)
                  have HE2 := Lib.hid (HL2.out)
                  have HBF := Lib.hid (show Below w.heap.size w (wo.alloc (.cells #[.int .i32 (65533 : Int)] 21)) from HB.out.alloc HB.out.size _)
                  have HOF := Lib.hid (ownR_alloc HO.out (.cells #[.int .i32 (65533 : Int)] 21))
                  have HRF := Lib.hid (rd_one_r wo (65533 : Int))
                  go_wp2_with (first
                    | (at_builtin
                       refine append_made w _ rfl (.tmp 94) (.tmp 96) _ rfl 21 i0 _ 1 4 Tryd.underlying26 hi0 hz0 hz1 hz2 rfl (by omega) _ _ _ rfl HOF.out (some ⟨wo.heap.size, 0, none⟩) 1 1 _ rfl HRF.out (by simp only [maxLen]; omega) (by omega) HBF.out ?_
                       intro v2 w2 hown2 hb3 hg2
                       have HO3 := Lib.hid (ownR_app hown2)
                       have HB3 := Lib.hid hb3
                       clear hown2 hb3 hg2))
                  exact ⟨⟨p, done ++ [(65533 : Int)], by omega, by first | rfl | go_num, HO3.out, by rw [HPM.out]; exact HFIN.out _ _ HE2.out, by have := HPM.out; simp; omega, HB3.out⟩, by simp [intOf]; have := HPM.out; omega⟩
                · have c3 : decide (lo' ≤ y.toNat) = true := decide_eq_true y1
                  have c4 : decide (y.toNat ≤ hi') = false := decide_eq_false (fun h => hyr ⟨y1, h⟩)
                  have HE2 := Lib.hid (HL2.out)
                  have HBF := Lib.hid (show Below w.heap.size w (wo.alloc (.cells #[.int .i32 (65533 : Int)] 21)) from HB.out.alloc HB.out.size _)
                  have HOF := Lib.hid (ownR_alloc HO.out (.cells #[.int .i32 (65533 : Int)] 21))
                  have HRF := Lib.hid (rd_one_r wo (65533 : Int))
                  go_wp2_with (first
                    | (at_builtin
                       refine append_made w _ rfl (.tmp 94) (.tmp 96) _ rfl 21 i0 _ 1 4 Tryd.underlying26 hi0 hz0 hz1 hz2 rfl (by omega) _ _ _ rfl HOF.out (some ⟨wo.heap.size, 0, none⟩) 1 1 _ rfl HRF.out (by simp only [maxLen]; omega) (by omega) HBF.out ?_
                       intro v2 w2 hown2 hb3 hg2
                       have HO3 := Lib.hid (ownR_app hown2)
                       have HB3 := Lib.hid hb3
                       clear hown2 hb3 hg2))
                  exact ⟨⟨p, done ++ [(65533 : Int)], by omega, by first | rfl | go_num, HO3.out, by rw [HPM.out]; exact HFIN.out _ _ HE2.out, by have := HPM.out; simp; omega, HB3.out⟩, by simp [intOf]; have := HPM.out; omega⟩
            · have c2 : decide (p < n) = false := decide_eq_false hpl
              have hl2 : oneU (l.drop i) = (65533, m) := by
                rw [HM.out, List.drop_eq_nil_of_le (by rw [HN.out]; omega)]
                obtain ⟨q, rfl⟩ : ∃ q, kk = q + 1 := ⟨kk - 1, by omega⟩
                rw [tail_nil]
              have HL2 := Lib.hid hl2
              clear hl2
              have HE2 := Lib.hid (HL2.out)
              have HBF := Lib.hid (show Below w.heap.size w (wo.alloc (.cells #[.int .i32 (65533 : Int)] 21)) from HB.out.alloc HB.out.size _)
              have HOF := Lib.hid (ownR_alloc HO.out (.cells #[.int .i32 (65533 : Int)] 21))
              have HRF := Lib.hid (rd_one_r wo (65533 : Int))
              go_wp2_with (first
                | (at_builtin
                   refine append_made w _ rfl (.tmp 94) (.tmp 96) _ rfl 21 i0 _ 1 4 Tryd.underlying26 hi0 hz0 hz1 hz2 rfl (by omega) _ _ _ rfl HOF.out (some ⟨wo.heap.size, 0, none⟩) 1 1 _ rfl HRF.out (by simp only [maxLen]; omega) (by omega) HBF.out ?_
                   intro v2 w2 hown2 hb3 hg2
                   have HO3 := Lib.hid (ownR_app hown2)
                   have HB3 := Lib.hid hb3
                   clear hown2 hb3 hg2))
              exact ⟨⟨p, done ++ [(65533 : Int)], by omega, by first | rfl | go_num, HO3.out, by rw [HPM.out]; exact HFIN.out _ _ HE2.out, by have := HPM.out; simp; omega, HB3.out⟩, by simp [intOf]; have := HPM.out; omega⟩
          · obtain rfl : kk = 0 := by omega
            have HE2 := Lib.hid (HM.out.trans (tail_zero _ _ _ _ _))
            have HBF := Lib.hid (show Below w.heap.size w (wo.alloc (.cells #[.int .i32 (r' : Int)] 21)) from HB.out.alloc HB.out.size _)
            have HOF := Lib.hid (ownR_alloc HO.out (.cells #[.int .i32 (r' : Int)] 21))
            have HRF := Lib.hid (rd_one_r wo (r' : Int))
            go_wp2_with (first
              | (at_builtin
                 refine append_made w _ rfl (.tmp 94) (.tmp 96) _ rfl 21 i0 _ 1 4 Tryd.underlying26 hi0 hz0 hz1 hz2 rfl (by omega) _ _ _ rfl HOF.out (some ⟨wo.heap.size, 0, none⟩) 1 1 _ rfl HRF.out (by simp only [maxLen]; omega) (by omega) HBF.out ?_
                 intro v2 w2 hown2 hb3 hg2
                 have HO3 := Lib.hid (ownR_app hown2)
                 have HB3 := Lib.hid hb3
                 clear hown2 hb3 hg2))
            exact ⟨⟨p, done ++ [(r' : Int)], by omega, by first | rfl | go_num, HO3.out, by rw [HPM.out]; exact HFIN.out _ _ HE2.out, by have := HPM.out; simp; omega, HB3.out⟩, by simp [intOf]; have := HPM.out; omega⟩
    · have d0 : decide ((i : Int) < (n : Int)) = false := decide_eq_false (by omega)
      go_wp2_with fail
      go_ret
      refine ⟨_, rfl, ?_, HB.out⟩
      have hd := HD.out
      rw [List.drop_eq_nil_of_le (by rw [HN.out]; omega), decU_nil, List.append_nil] at hd
      rw [hd]
      exact HO.out
end Go.Proofs.YtpdbbpmkdkjppaaDoor
