/- UtfBack. -/
import Derived.Test.YtpdbbpmkdkjppaaDoorUtfJoins
import Derived.Laws.IdiomStrings
import Derived.Lib.SlBuf
import Derived.Deep.CutBlock
import Derived.Deep.DeepCutAuto
namespace Go.Proofs.YtpdbbpmkdkjppaaDoor
open Go.RowKit

/-- What '[]byte(s)' lays. -/
def bytesW (w : World) (s : ByteArray) : World := w.drew.alloc (.cells (bytesRow s (grownCap w s.size 0 5)) 5 ((bytesRow s (grownCap w s.size 0 5)).size, (bytesRow s (grownCap w s.size 0 5)).size + 1))
theorem bytesW_below (w : World) (s : ByteArray) : Below w.heap.size w (bytesW w s) := (Below.refl w.heap.size w).drew.alloc (Nat.le_refl _) _
theorem bytesW_rd (w : World) (s : ByteArray) (hs : s.size ≤ 1000000) : RdB (bytesW w s) (some ⟨w.heap.size, 0, none⟩) (grownCap w s.size 0 5) (B s) := by
  have hge := grownCap_ge w s.size 0 5
  refine RdB.of (by rw [← size_B]; exact hge) (grownCap_le_maxLen w _ _ _ (by simp only [maxLen]; omega)) fun j x hj => ?_
  rw [Nat.zero_add]
  show (w.drew.alloc _).cell? ⟨w.drew.heap.size, j, none⟩ = _
  have hjl := (List.getElem?_eq_some_iff.1 hj).1
  rw [World.cell?_alloc_mark, bytesRow_at s _ j (by simpa [B] using hjl)]
  obtain ⟨h1, h2⟩ := List.getElem?_eq_some_iff.1 hj
  congr 2
  rw [← h2]
  simp [B]

theorem mark_take (l : List UInt8) : markU l = (l.take 3 == [239, 187, 191]) := by
  unfold markU Lib.hasPrefix
  rcases l with _ | ⟨a, _ | ⟨b, _ | ⟨c, t⟩⟩⟩
  · rfl
  · simp [List.isPrefixOf]
  · simp [List.isPrefixOf]
  · rw [Bool.eq_iff_iff]
    simp only [List.isPrefixOf, Bool.and_true, Bool.and_eq_true, beq_iff_eq, List.take_succ_cons, List.take_zero, List.cons.injEq, and_true]
    constructor
    · rintro ⟨h1, h2, h3⟩; exact ⟨h1.symm, h2.symm, h3.symm⟩
    · rintro ⟨h1, h2, h3⟩; exact ⟨h1.symm, h2.symm, h3.symm⟩
set_option maxHeartbeats 4000000 in
set_option maxRecDepth 100000 in
theorem walk_UtfBack (A0 : Option Addr) (c0 : Nat) (a0 : List UInt8) (A1 : Option Addr) (c1 : Nat) (a1 : List Int) (W : World) (hT : Tabs W) (h0 : RdB W A0 c0 a0) (h1 : RdR W A1 c1 a1) (hb : ∀ x ∈ a1, -2147483648 ≤ x ∧ x ≤ 2147483647) :
    Calls Tryd.prog 5 #[.slice A0 a0.length c0, .slice A1 a1.length c1] W fun e w' => e = .returned (.bool true) ∧ Below W.heap.size W w' := by
  obtain ⟨i0, hi0, hz0, hz1, hz2⟩ := info_parts info_rune
  have HC : Hid (Calls Tryd.prog 10 #[.slice A0 a0.length c0, .int .i64 400] W fun e w' => e = .returned (.slice A0 (a0.take 400).length c0) ∧ W = w') := cut_any W A0 c0 a0 h0 400 (by decide)
  have h0t : RdB W A0 c0 (a0.take 400) := by
    by_cases h : 400 ≤ a0.length
    · exact h0.take 400 h
    · rw [List.take_of_length_le (by omega)]; exact h0
  have hl0 : (a0.take 400).length ≤ 400 := by rw [List.length_take]; omega
  obtain ⟨rs, hrs, hrl, hrg⟩ := prepU_runes (a0.take 400)
  have hrl4 : rs.length ≤ 400 := by omega
  have H0 := Lib.hid h0t
  have H1 := Lib.hid h1
  have HT := Lib.hid hT
  have HBn := Lib.hid hb
  have HRS := Lib.hid hrs
  have HRG := Lib.hid hrg
  have HL0 := Lib.hid hl0
  clear h0 h0t h1 hT hb hrs hrg hrl
  obtain ⟨b, hbb⟩ : ∃ b, a0.take 400 = b := ⟨_, rfl⟩
  rw [hbb] at HC H0 HRS HL0 hl0
  clear hbb
  generalize a0.length = n0 at *
  obtain ⟨n, hn⟩ : ∃ n, a1.length = n := ⟨_, rfl⟩
  rw [hn]
  have HN := Lib.hid hn
  clear hn
  obtain ⟨nb, hnb⟩ : ∃ nb, b.length = nb := ⟨_, rfl⟩
  rw [hnb] at HC hl0 HL0
  have HNB := Lib.hid hnb
  clear hnb
  go_enter Tryd.func5, Tryd.ntmps5
  go_upto_block 0 with (first
    | (go_at_call 10; with_reducible refine HC.out.mono ?_; rintro e w' ⟨rfl, rfl⟩))
  go_cut [5, 6] (fun ov _ wx => ∃ good : List Int, OwnR wx W.heap.size ov good ∧ (∀ x ∈ good, GoodI x) ∧ good.length ≤ 100 ∧ Below W.heap.size W wx)
  case first =>
    go_wp2_with fail
    go_loopw [5, 6] (fun ov iv wr => ∃ (i : Nat) (good : List Int), i ≤ n ∧ i ≤ 100 ∧ iv = .int .i64 i ∧ OwnR wr W.heap.size ov good ∧ (∀ x ∈ good, GoodI x) ∧ good.length ≤ i ∧ Below W.heap.size W wr) (fun _ iv _ => n - (intOf iv).toNat)
    case atStart => exact ⟨0, [], Nat.zero_le _, by omega, rfl, World.ownsRow_nil _ _ _ _, by simp, Nat.le_refl _, Below.refl _ _⟩
    case round =>
      obtain ⟨i, good, hi, hi100, rfl, ho, hg, hlen, hb⟩ := hrel
      have HO := Lib.hid ho
      have HG := Lib.hid hg
      have HB := Lib.hid hb
      clear ho hg hb
      by_cases hlt : i < n ∧ i < 100
      · obtain ⟨hlt, hlt2⟩ := hlt
        have hi1 : i < a1.length := by rw [HN.out]; exact hlt
        obtain ⟨x, hx⟩ : ∃ x, a1[i]? = some x := ⟨_, List.getElem?_eq_getElem hi1⟩
        obtain ⟨b1, o1, eA, hc⟩ := (H1.out.keep HB.out).cell (by omega)
        have k1 := hc i x hx
        have d0 : decide ((i : Int) < (n : Int)) = true := decide_eq_true (by omega)
        have d1 : decide ((i : Int) < 100) = true := decide_eq_true (by omega)
        have s1 : IntKind.i64.wrap ((i : Int) + 1) = (i : Int) + 1 := IntWalk.i64_in _ (by omega)
        subst eA
        clear hx hi1 hc
        by_cases q0 : 0 ≤ x
        · have t0 : decide (0 ≤ x) = true := decide_eq_true q0
          by_cases q1 : x < 55296
          · have t1 : decide (x < 55296) = true := decide_eq_true q1
            have HGX : Hid (GoodI x) := ⟨x.toNat, .inl (by omega), by omega⟩
            have HBF := Lib.hid (show Below W.heap.size W (wr.alloc (.cells #[.int .i32 x] 21)) from HB.out.alloc HB.out.size _)
            have HOF := Lib.hid (ownR_alloc HO.out (.cells #[.int .i32 x] 21))
            have HRF := Lib.hid (rd_one_r wr x)
            go_wp2_with (first
              | (at_builtin
                 refine append_made W _ rfl (.tmp 48) (.tmp 53) _ rfl 21 i0 _ 1 4 Tryd.underlying26 hi0 hz0 hz1 hz2 rfl (by omega) _ _ _ rfl HOF.out (some ⟨wr.heap.size, 0, none⟩) 1 1 _ rfl HRF.out (by simp only [maxLen]; omega) (by omega) HBF.out ?_
                 intro v2 w2 hown2 hb3 hg2
                 have HO3 := Lib.hid (ownR_app hown2)
                 have HB3 := Lib.hid hb3
                 clear hown2 hb3 hg2))
            exact ⟨⟨i + 1, good ++ [x], by omega, by omega, by go_num, HO3.out, by intro y hy; rcases List.mem_append.1 hy with hy | hy; exact HG.out y hy; rw [List.mem_singleton.1 hy]; exact HGX.out, by simp; omega, HB3.out⟩, by simp [intOf]; omega⟩
          · have t1 : decide (x < 55296) = false := decide_eq_false q1
            by_cases q2 : 57343 < x
            · have t2 : decide (57343 < x) = true := decide_eq_true q2
              by_cases q3 : x ≤ 1114111
              · have t3 : decide (x ≤ 1114111) = true := decide_eq_true q3
                have HGX : Hid (GoodI x) := ⟨x.toNat, .inr (by omega), by omega⟩
                have HBF := Lib.hid (show Below W.heap.size W (wr.alloc (.cells #[.int .i32 x] 21)) from HB.out.alloc HB.out.size _)
                have HOF := Lib.hid (ownR_alloc HO.out (.cells #[.int .i32 x] 21))
                have HRF := Lib.hid (rd_one_r wr x)
                go_wp2_with (first
                  | (at_builtin
                     refine append_made W _ rfl (.tmp 48) (.tmp 53) _ rfl 21 i0 _ 1 4 Tryd.underlying26 hi0 hz0 hz1 hz2 rfl (by omega) _ _ _ rfl HOF.out (some ⟨wr.heap.size, 0, none⟩) 1 1 _ rfl HRF.out (by simp only [maxLen]; omega) (by omega) HBF.out ?_
                     intro v2 w2 hown2 hb3 hg2
                     have HO3 := Lib.hid (ownR_app hown2)
                     have HB3 := Lib.hid hb3
                     clear hown2 hb3 hg2))
                exact ⟨⟨i + 1, good ++ [x], by omega, by omega, by go_num, HO3.out, by intro y hy; rcases List.mem_append.1 hy with hy | hy; exact HG.out y hy; rw [List.mem_singleton.1 hy]; exact HGX.out, by simp; omega, HB3.out⟩, by simp [intOf]; omega⟩
              · have t3 : decide (x ≤ 1114111) = false := decide_eq_false q3
                go_wp2_with fail
                exact ⟨⟨i + 1, good, by omega, by omega, by go_num, HO.out, HG.out, by omega, HB.out⟩, by simp [intOf]; omega⟩
            · have t2 : decide (57343 < x) = false := decide_eq_false q2
              go_wp2_with fail
              exact ⟨⟨i + 1, good, by omega, by omega, by go_num, HO.out, HG.out, by omega, HB.out⟩, by simp [intOf]; omega⟩
        · have t0 : decide (0 ≤ x) = false := decide_eq_false q0
          have t2 : decide (57343 < x) = false := decide_eq_false (by omega)
          go_wp2_with fail
          exact ⟨⟨i + 1, good, by omega, by omega, by go_num, HO.out, HG.out, by omega, HB.out⟩, by simp [intOf]; omega⟩
      · have hcase : (decide ((i : Int) < (n : Int)) = false ∧ ¬ i < n) ∨ (decide ((i : Int) < (n : Int)) = true ∧ decide ((i : Int) < 100) = false ∧ i < n ∧ ¬ i < 100) := by
          by_cases h1 : i < n
          · exact .inr ⟨decide_eq_true (by omega), decide_eq_false (by omega), h1, by omega⟩
          · exact .inl ⟨decide_eq_false (by omega), h1⟩
        clear hlt
        rcases hcase with ⟨d0, m0⟩ | ⟨d0, d1, m0, m1⟩
        all_goals
          go_wp2_with fail
          go_meet
          exact ⟨good, HO.out, HG.out, by omega, HB.out⟩
  case rest =>
    obtain ⟨good, ho, hg, hgl, hb⟩ := hcut
    obtain ⟨Ag, cg, rfl, hrg⟩ := ho.rd
    have HRGd := Lib.hid hrg
    have HG := Lib.hid hg
    have HB := Lib.hid hb
    have HGL := Lib.hid hgl
    have hp := prepare_any wc A0 c0 b (H0.out.keep hb) (by rw [HNB.out]; omega) (HT.out.keep hb)
    rw [HNB.out, HRS.out] at hp
    obtain ⟨T, hT⟩ : ∃ T, S (encI rs) = T := ⟨_, rfl⟩
    have HTX := Lib.hid hT
    rw [hT] at hp
    have HP := Lib.hid hp
    clear ho hg hgl hb hrg hp hT
    go_wp2_with (first
      | (go_at_call 13
         with_reducible refine HP.out.mono ?_
         rintro e w2 ⟨rfl, hb2⟩
         have HB2 := Lib.hid (HB.out.trans (hb2.mono HB.out.size))
         have HR2 := Lib.hid (HRGd.out.keep hb2)
         clear hb2))
    have hBT : B T = encI rs := by rw [← HTX.out, B_S]
    have hTs : T.size ≤ 1600 := by rw [size_B, hBT]; have := enc_len rs; omega
    have hbytes : ∀ (i : Nat) (h : i < T.size), T[i].toNat ≠ 0 ∧ T[i].toNat ≠ 13 := fun i h => by
      have hm : T[i] ∈ encI rs := by
        rw [← hBT]
        have := B_at T i h
        exact List.mem_of_getElem? this
      have key : ∀ k : Nat, k < 128 → T[i].toNat = k → (k : Int) ∈ rs := fun k hk e => by
        refine enc_small hk rs (fun y hy => (HRG.out y hy).1) ?_
        rw [ofNat_eq e.symm]
        exact hm
      refine ⟨fun e => ?_, fun e => ?_⟩
      · exact (HRG.out _ (key 0 (by decide) e)).2.2 rfl
      · exact (HRG.out _ (key 13 (by decide) e)).2.1 rfl
    have HBT := Lib.hid hBT
    have HBY := Lib.hid hbytes
    clear hBT hbytes
    go_loopw [8] (fun iv wr => ∃ i : Nat, i ≤ T.size ∧ iv = .int .i64 i ∧ w2 = wr) (fun iv _ => T.size - (intOf iv).toNat)
    case atStart => exact ⟨0, Nat.zero_le _, rfl, rfl⟩
    case round =>
      obtain ⟨i, hi, rfl, rfl⟩ := hrel
      by_cases hlt : i < T.size
      · have d0 : decide ((i : Int) < (T.size : Int)) = true := decide_eq_true (by omega)
        have s1 : IntKind.i64.wrap ((i : Int) + 1) = (i : Int) + 1 := IntWalk.i64_in _ (by omega)
        obtain ⟨y0, y1⟩ := HBY.out i hlt
        have z0 : ((T[i].toNat : Int) == 0) = false := by rw [beq_eq_false_iff_ne]; omega
        have z1 : ((T[i].toNat : Int) == 13) = false := by rw [beq_eq_false_iff_ne]; omega
        go_wp2_with fail
        exact ⟨⟨i + 1, by omega, by go_num, by first | exact True.intro | rfl⟩, by simp [intOf]; omega⟩
      · obtain rfl : i = T.size := by omega
        have d0 : decide ((T.size : Int) < (T.size : Int)) = false := decide_eq_false (by omega)
        have hint : ∀ l : List Int, (∀ x ∈ l, GoodI x) → ∀ x ∈ l, -2147483648 ≤ x ∧ x ≤ 2147483647 := fun l h x hx => by
          obtain ⟨m, hg, rfl⟩ := h x hx
          unfold goodR at hg
          omega
        have HRI := Lib.hid (hint rs (fun x hx => (HRG.out x hx).1))
        have he := encode_any w2 Ag cg good HR2.out (by have := HGL.out; omega) (hint good HG.out)
        obtain ⟨G, hG⟩ : ∃ G, S (encI good) = G := ⟨_, rfl⟩
        rw [hG] at he
        have HE1 := Lib.hid he
        have hBG : B G = encI good := by rw [← hG, B_S]
        have HGS : Hid (G.size ≤ 400) := by show _ ≤ _; rw [size_B, hBG]; have := enc_len good; have := HGL.out; omega
        have HGD : Hid (decU (B G) = good) := by show _ = _; rw [hBG]; exact dec_enc0 good HG.out
        have HBD : Hid (decU (B T) = rs) := by show _ = _; rw [HBT.out]; exact dec_enc0 rs (fun x hx => (HRG.out x hx).1)
        have kc := fun (w : World) (s : ByteArray) => (show (convert 9 23 (.string s)).run Tryd.prog w = .ok (.slice (some ⟨w.heap.size, 0, none⟩) s.size (grownCap w s.size 0 5)) (bytesW w s) from run_bytes_of_string (P := Tryd.prog) w 9 23 5 s Tryd.underlying9 Tryd.underlying23 Tryd.underlying5)
        clear he hG hBG hint
        by_cases h3 : 3 ≤ T.size
        · have d3 : decide (3 ≤ T.size) = true := decide_eq_true h3
          have hq : ((T.extract 0 3).toList == ([239, 187, 191] : List UInt8)) = markU (encI rs) := by
            rw [toList_B, B_piece, HBT.out, mark_take]
            rfl
          cases hmk : markU (encI rs) with
          | true =>
            rw [hmk] at hq
            clear hmk
            go_wp2_with (first
              | (go_at_call 11
                 with_reducible refine HE1.out.mono ?_
                 rintro e w3 ⟨rfl, hb3⟩
                 have HB3 := Lib.hid (HB2.out.trans (hb3.mono HB2.out.size))
                 have HR3 := Lib.hid (HR2.out.keep hb3)
                 have hbw := HB3.out.trans ((bytesW_below w3 G).mono HB3.out.size)
                 have HB4 := Lib.hid hbw
                 have HR4 := Lib.hid (HR3.out.keep (bytesW_below w3 G))
                 have hd := decode_any (bytesW w3 G) _ _ (B G) (bytesW_rd w3 G (by have := HGS.out; omega)) (by rw [← size_B]; have := HGS.out; omega) (HT.out.keep hbw)
                 rw [← size_B, HGD.out] at hd
                 have HD1 := Lib.hid hd
                 clear hb3 hbw hd HE1)
              | (go_at_call 15
                 with_reducible refine HD1.out.mono ?_
                 rintro e w5 ⟨v5, rfl, ho5, hb5⟩
                 obtain ⟨A5, c5, rfl, hr5⟩ := ho5.rd
                 have HB5 := Lib.hid (HB4.out.trans (hb5.mono HB4.out.size))
                 have HS := Lib.hid (same_r w5 A5 Ag c5 cg good good hr5.1 (HR4.out.keep hb5).1 (by have := HGL.out; omega))
                 clear ho5 hb5 hr5 HD1)
              | (go_at_call 14
                 with_reducible refine HS.out.mono ?_
                 rintro e w6 ⟨rfl, hb6⟩
                 have HB6 := Lib.hid (HB5.out.trans (hb6.mono HB5.out.size))
                 have hbw := HB6.out.trans ((bytesW_below w6 T).mono HB6.out.size)
                 have HB7 := Lib.hid hbw
                 have hd := decode_any (bytesW w6 T) _ _ (B T) (bytesW_rd w6 T (by omega)) (by rw [← size_B]; omega) (HT.out.keep hbw)
                 rw [← size_B, HBD.out] at hd
                 have HD2 := Lib.hid hd
                 clear hb6 hbw hd)
              | (go_at_call 15
                 with_reducible refine HD2.out.mono ?_
                 rintro e w8 ⟨v8, rfl, ho8, hb8⟩
                 obtain ⟨A8, c8, rfl, hr8⟩ := ho8.rd
                 have HB8 := Lib.hid (HB7.out.trans (hb8.mono HB7.out.size))
                 have he := encode_any w8 A8 c8 rs hr8 (by omega) HRI.out
                 rw [HTX.out] at he
                 have HE2 := Lib.hid he
                 clear ho8 hb8 hr8 he HD2)
              | (go_at_call 11
                 with_reducible refine HE2.out.mono ?_
                 rintro e w9 ⟨rfl, hb9⟩
                 have HB9 := Lib.hid (HB8.out.trans (hb9.mono HB8.out.size))
                 have HK := Lib.hid (known_any w9 (HT.out.keep HB9.out))
                 have HB10 := HB9
                 clear hb9 HE2)
              | (go_at_call 9
                 with_reducible refine HK.out.mono ?_
                 rintro e w11 ⟨rfl, hb11⟩
                 have HB11 := Lib.hid (HB10.out.trans (hb11.mono HB10.out.size))
                 clear hb11))
            go_ret
            exact ⟨rfl, HB11.out⟩
          | false =>
            have HPT : Hid (S (prepU (B T)) = T) := by show _ = _; rw [HBT.out, prepU_idem HRG.out hmk]; exact HTX.out
            rw [hmk] at hq
            clear hmk
            go_wp2_with (first
              | (go_at_call 11
                 with_reducible refine HE1.out.mono ?_
                 rintro e w3 ⟨rfl, hb3⟩
                 have HB3 := Lib.hid (HB2.out.trans (hb3.mono HB2.out.size))
                 have HR3 := Lib.hid (HR2.out.keep hb3)
                 have hbw := HB3.out.trans ((bytesW_below w3 G).mono HB3.out.size)
                 have HB4 := Lib.hid hbw
                 have HR4 := Lib.hid (HR3.out.keep (bytesW_below w3 G))
                 have hd := decode_any (bytesW w3 G) _ _ (B G) (bytesW_rd w3 G (by have := HGS.out; omega)) (by rw [← size_B]; have := HGS.out; omega) (HT.out.keep hbw)
                 rw [← size_B, HGD.out] at hd
                 have HD1 := Lib.hid hd
                 clear hb3 hbw hd HE1)
              | (go_at_call 15
                 with_reducible refine HD1.out.mono ?_
                 rintro e w5 ⟨v5, rfl, ho5, hb5⟩
                 obtain ⟨A5, c5, rfl, hr5⟩ := ho5.rd
                 have HB5 := Lib.hid (HB4.out.trans (hb5.mono HB4.out.size))
                 have HS := Lib.hid (same_r w5 A5 Ag c5 cg good good hr5.1 (HR4.out.keep hb5).1 (by have := HGL.out; omega))
                 clear ho5 hb5 hr5 HD1)
              | (go_at_call 14
                 with_reducible refine HS.out.mono ?_
                 rintro e w6 ⟨rfl, hb6⟩
                 have HB6 := Lib.hid (HB5.out.trans (hb6.mono HB5.out.size))
                 have hbw := HB6.out.trans ((bytesW_below w6 T).mono HB6.out.size)
                 have HB7 := Lib.hid hbw
                 have hd := decode_any (bytesW w6 T) _ _ (B T) (bytesW_rd w6 T (by omega)) (by rw [← size_B]; omega) (HT.out.keep hbw)
                 rw [← size_B, HBD.out] at hd
                 have HD2 := Lib.hid hd
                 clear hb6 hbw hd)
              | (go_at_call 15
                 with_reducible refine HD2.out.mono ?_
                 rintro e w8 ⟨v8, rfl, ho8, hb8⟩
                 obtain ⟨A8, c8, rfl, hr8⟩ := ho8.rd
                 have HB8 := Lib.hid (HB7.out.trans (hb8.mono HB7.out.size))
                 have he := encode_any w8 A8 c8 rs hr8 (by omega) HRI.out
                 rw [HTX.out] at he
                 have HE2 := Lib.hid he
                 clear ho8 hb8 hr8 he HD2)
              | (go_at_call 11
                 with_reducible refine HE2.out.mono ?_
                 rintro e w9 ⟨rfl, hb9⟩
                 have HB9 := Lib.hid (HB8.out.trans (hb9.mono HB8.out.size))
                 have hbw := HB9.out.trans ((bytesW_below w9 T).mono HB9.out.size)
                 have HBw := Lib.hid hbw
                 have hp := prepare_any (bytesW w9 T) _ _ (B T) (bytesW_rd w9 T (by omega)) (by rw [← size_B]; omega) (HT.out.keep hbw)
                 rw [← size_B, HPT.out] at hp
                 have HP2 := Lib.hid hp
                 clear hb9 hbw hp HE2)
              | (go_at_call 13
                 with_reducible refine HP2.out.mono ?_
                 rintro e w10 ⟨rfl, hb10⟩
                 have HB10 := Lib.hid (HBw.out.trans (hb10.mono HBw.out.size))
                 have HK := Lib.hid (known_any w10 (HT.out.keep HB10.out))
                 clear hb10)
              | (go_at_call 9
                 with_reducible refine HK.out.mono ?_
                 rintro e w11 ⟨rfl, hb11⟩
                 have HB11 := Lib.hid (HB10.out.trans (hb11.mono HB10.out.size))
                 clear hb11))
            go_ret
            exact ⟨rfl, HB11.out⟩
        · have d3 : decide (3 ≤ T.size) = false := decide_eq_false h3
          have hmk : markU (encI rs) = false := by
            rw [mark_at, ← HBT.out, ← size_B, d3]
            rfl
          have HPT : Hid (S (prepU (B T)) = T) := by show _ = _; rw [HBT.out, prepU_idem HRG.out hmk]; exact HTX.out
          clear hmk
          go_wp2_with (first
            | (go_at_call 11
               with_reducible refine HE1.out.mono ?_
               rintro e w3 ⟨rfl, hb3⟩
               have HB3 := Lib.hid (HB2.out.trans (hb3.mono HB2.out.size))
               have HR3 := Lib.hid (HR2.out.keep hb3)
               have hbw := HB3.out.trans ((bytesW_below w3 G).mono HB3.out.size)
               have HB4 := Lib.hid hbw
               have HR4 := Lib.hid (HR3.out.keep (bytesW_below w3 G))
               have hd := decode_any (bytesW w3 G) _ _ (B G) (bytesW_rd w3 G (by have := HGS.out; omega)) (by rw [← size_B]; have := HGS.out; omega) (HT.out.keep hbw)
               rw [← size_B, HGD.out] at hd
               have HD1 := Lib.hid hd
               clear hb3 hbw hd HE1)
            | (go_at_call 15
               with_reducible refine HD1.out.mono ?_
               rintro e w5 ⟨v5, rfl, ho5, hb5⟩
               obtain ⟨A5, c5, rfl, hr5⟩ := ho5.rd
               have HB5 := Lib.hid (HB4.out.trans (hb5.mono HB4.out.size))
               have HS := Lib.hid (same_r w5 A5 Ag c5 cg good good hr5.1 (HR4.out.keep hb5).1 (by have := HGL.out; omega))
               clear ho5 hb5 hr5 HD1)
            | (go_at_call 14
               with_reducible refine HS.out.mono ?_
               rintro e w6 ⟨rfl, hb6⟩
               have HB6 := Lib.hid (HB5.out.trans (hb6.mono HB5.out.size))
               have hbw := HB6.out.trans ((bytesW_below w6 T).mono HB6.out.size)
               have HB7 := Lib.hid hbw
               have hd := decode_any (bytesW w6 T) _ _ (B T) (bytesW_rd w6 T (by omega)) (by rw [← size_B]; omega) (HT.out.keep hbw)
               rw [← size_B, HBD.out] at hd
               have HD2 := Lib.hid hd
               clear hb6 hbw hd)
            | (go_at_call 15
               with_reducible refine HD2.out.mono ?_
               rintro e w8 ⟨v8, rfl, ho8, hb8⟩
               obtain ⟨A8, c8, rfl, hr8⟩ := ho8.rd
               have HB8 := Lib.hid (HB7.out.trans (hb8.mono HB7.out.size))
               have he := encode_any w8 A8 c8 rs hr8 (by omega) HRI.out
               rw [HTX.out] at he
               have HE2 := Lib.hid he
               clear ho8 hb8 hr8 he HD2)
            | (go_at_call 11
               with_reducible refine HE2.out.mono ?_
               rintro e w9 ⟨rfl, hb9⟩
               have HB9 := Lib.hid (HB8.out.trans (hb9.mono HB8.out.size))
               have hbw := HB9.out.trans ((bytesW_below w9 T).mono HB9.out.size)
               have HBw := Lib.hid hbw
               have hp := prepare_any (bytesW w9 T) _ _ (B T) (bytesW_rd w9 T (by omega)) (by rw [← size_B]; omega) (HT.out.keep hbw)
               rw [← size_B, HPT.out] at hp
               have HP2 := Lib.hid hp
               clear hb9 hbw hp HE2)
            | (go_at_call 13
               with_reducible refine HP2.out.mono ?_
               rintro e w10 ⟨rfl, hb10⟩
               have HB10 := Lib.hid (HBw.out.trans (hb10.mono HBw.out.size))
               have HK := Lib.hid (known_any w10 (HT.out.keep HB10.out))
               clear hb10)
            | (go_at_call 9
               with_reducible refine HK.out.mono ?_
               rintro e w11 ⟨rfl, hb11⟩
               have HB11 := Lib.hid (HB10.out.trans (hb11.mono HB10.out.size))
               clear hb11))
          go_ret
          exact ⟨rfl, HB11.out⟩
end Go.Proofs.YtpdbbpmkdkjppaaDoor
