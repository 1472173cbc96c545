/- arbourbook.Intact at bytes; the chapter's own known runs; same. -/
import Derived.Test.YtpdbbpmkdkjppaaDoorUtfB
namespace Go.Proofs.YtpdbbpmkdkjppaaDoor
open Go.RowKit

theorem blk_rdB {w : World} {g c : Nat} {L : List UInt8} (h : Blk w g 5 (L.flatMap enc_b).toArray (0, 0)) (n : Nat) (hn : n ≤ L.length) (hc : n ≤ c) (hm : c ≤ maxLen) : RdB w (some ⟨g, 0, none⟩) c (L.take n) := by
  refine RdB.of (by rw [List.length_take]; omega) hm fun j x hj => ?_
  rw [Nat.zero_add, h.cell j, List.getElem?_toArray]
  rw [List.getElem?_take] at hj
  split at hj
  · have := row_at encOk_b L j 0 x _ hj rfl
    simpa using this
  · cases hj

set_option maxHeartbeats 2000000 in
set_option maxRecDepth 100000 in
theorem intact_any (w : World) (g : Nat) (A : Option Addr) (c : Nat) (l : List UInt8) (hbk : Blk w g 5 ((l ++ List.replicate 80 165).flatMap enc_b).toArray (0, 0)) (h : RdB w A c l) (hsz : l.length ≤ 1000000) :
    Calls Tryd.prog 21 #[.slice (some ⟨g, 0, none⟩) (l.length + 80) (l.length + 80), .slice A l.length c, .int .u8 165] w fun e w' => e = .returned (.bool true) ∧ Below w.heap.size w w' := by
  have hr := blk_rdB (c := l.length + 80) hbk l.length (by simp) (by omega) (by unfold maxLen; omega)
  rw [take_left l _ _ rfl] at hr
  have HS := Lib.hid (same_b w (some ⟨g, 0, none⟩) A (l.length + 80) c l l hr.1 h.1 (by omega))
  have hcell : ∀ j, l.length ≤ j → j < l.length + 80 → w.cell? ⟨g, j, none⟩ = some (.int .u8 165) := fun j h1 h2 => by
    rw [hbk.cell j, List.getElem?_toArray]
    have hx : (l ++ List.replicate 80 (165 : UInt8))[j]? = some 165 := by
      rw [List.getElem?_append_right h1, List.getElem?_replicate, if_pos (by omega)]
    have := row_at encOk_b _ j 0 165 _ hx rfl
    simpa using this
  have HC := Lib.hid hcell
  clear hbk h hr hcell
  generalize l.length = n at *
  have s0 : IntKind.i64.wrap ((n : Int) + 80) = (n : Int) + 80 := IntWalk.i64_in _ (by omega)
  have hn80 : n ≤ n + 80 := by omega
  go_enter Tryd.func21, Tryd.ntmps21
  go_wp2_with (first
    | (go_at_call 27
       with_reducible refine HS.out.mono ?_
       rintro e w2 ⟨rfl, hb⟩
       have HB := Lib.hid hb
       clear hb))
  go_loopw [7] (fun iv wr => ∃ i : Nat, n ≤ i ∧ i ≤ n + 80 ∧ iv = .int .i64 i ∧ w2 = wr) (fun iv _ => n + 80 - (intOf iv).toNat)
  case atStart => exact ⟨n, Nat.le_refl _, by omega, rfl, rfl⟩
  case round =>
    obtain ⟨i, hi1, hi2, rfl, rfl⟩ := hrel
    by_cases hlt : i < n + 80
    · have d0 : decide ((i : Int) < (n : Int) + 80) = true := decide_eq_true (by omega)
      have s1 : IntKind.i64.wrap ((i : Int) + 1) = (i : Int) + 1 := IntWalk.i64_in _ (by omega)
      have k0 := cell_keep HB.out (HC.out i hi1 hlt)
      go_wp2_with fail
      exact ⟨⟨i + 1, by omega, by omega, by go_num, by first | exact True.intro | rfl⟩, by simp [intOf]; omega⟩
    · have d0 : decide ((i : Int) < (n : Int) + 80) = false := decide_eq_false (by omega)
      go_wp2_with fail
      go_ret
      exact ⟨rfl, HB.out⟩

theorem known_dec : decU [240, 159, 65] = [65533, 65] := by decide +kernel
theorem known_prep : S (prepU [13, 13, 10]) = ⟨#[10, 10]⟩ := by decide +kernel
theorem rdB_lit (w : World) (l : List UInt8) (hl : l.length ≤ 1000) : RdB (w.alloc (.cells (l.flatMap enc_b).toArray 5)) (some ⟨w.heap.size, 0, none⟩) l.length l := by
  have := blk_rdB (c := l.length) (Blk.new w 5 (l.flatMap enc_b).toArray (0, 0)) l.length (Nat.le_refl _) (Nat.le_refl _) (by unfold maxLen; omega)
  rwa [List.take_length] at this
theorem rdR_lit (w : World) (l : List Int) (hl : l.length ≤ 1000) : RdR (w.alloc (.cells (l.flatMap enc_r).toArray 21)) (some ⟨w.heap.size, 0, none⟩) l.length l := by
  refine ⟨rd_of encOk_r (by omega) rfl fun i y hy j u hu => ?_, Nat.le_refl _, by unfold maxLen; omega⟩
  rw [add0, (Blk.new w 21 (l.flatMap enc_r).toArray (0, 0)).cell _, List.getElem?_toArray]
  exact row_at encOk_r l i j y u hy hu

set_option maxHeartbeats 2000000 in
set_option maxRecDepth 100000 in
theorem known_any (w : World) (hT : Tabs w) : Calls Tryd.prog 9 #[] w fun e w' => e = .returned (.bool true) ∧ Below w.heap.size w w' := by
  have hb0 : Below w.heap.size w (w.alloc (.cells #[.int .u8 240, .int .u8 159, .int .u8 65] 5)) := (Below.refl _ _).alloc (Nat.le_refl _) _
  have hd := decode_any _ _ 3 [240, 159, 65] (rdB_lit w [240, 159, 65] (by decide)) (by decide) (hT.keep hb0)
  rw [known_dec] at hd
  have HD : Hid (Calls Tryd.prog 15 #[.slice (some ⟨w.heap.size, 0, none⟩) 3 3] (w.alloc (.cells #[.int .u8 240, .int .u8 159, .int .u8 65] 5)) fun e w' => ∃ v, e = .returned v ∧ OwnR w' (w.alloc (.cells #[.int .u8 240, .int .u8 159, .int .u8 65] 5)).heap.size v [65533, 65] ∧ Below (w.alloc (.cells #[.int .u8 240, .int .u8 159, .int .u8 65] 5)).heap.size (w.alloc (.cells #[.int .u8 240, .int .u8 159, .int .u8 65] 5)) w') := hd
  have HB0 := Lib.hid hb0
  have HT := Lib.hid hT
  have HKP := Lib.hid known_prep
  clear hd hb0 hT
  go_enter Tryd.func9, Tryd.ntmps9
  go_wp2_with (first
    | (go_at_call 15
       with_reducible refine HD.out.mono ?_
       rintro e w1 ⟨v, rfl, ho1, hb1⟩
       obtain ⟨A1, c1, rfl, hr1⟩ := ho1.rd
       have HB1 := Lib.hid (HB0.out.trans (hb1.mono HB0.out.size))
       have hb2 : Below w1.heap.size w1 (w1.alloc (.cells #[.int .i32 65533, .int .i32 65] 21)) := (Below.refl _ _).alloc (Nat.le_refl _) _
       have HB2 := Lib.hid (HB1.out.trans (hb2.mono HB1.out.size))
       have HS : Hid (Calls Tryd.prog 14 #[.slice A1 2 c1, .slice (some ⟨w1.heap.size, 0, none⟩) 2 2] (w1.alloc (.cells #[.int .i32 65533, .int .i32 65] 21)) fun e w' => e = .returned (.bool true) ∧ Below (w1.alloc (.cells #[.int .i32 65533, .int .i32 65] 21)).heap.size (w1.alloc (.cells #[.int .i32 65533, .int .i32 65] 21)) w') := same_r _ A1 (some ⟨w1.heap.size, 0, none⟩) c1 2 [65533, 65] [65533, 65] (hr1.keep hb2).1 (rdR_lit w1 [65533, 65] (by decide)).1 (by decide)
       clear ho1 hb1 hr1 hb2)
    | (go_at_call 14
       with_reducible refine HS.out.mono ?_
       rintro e w3 ⟨rfl, hb3⟩
       have HB3 := Lib.hid (HB2.out.trans (hb3.mono HB2.out.size))
       have hb4 : Below w3.heap.size w3 (w3.alloc (.cells #[.int .u8 13, .int .u8 13, .int .u8 10] 5)) := (Below.refl _ _).alloc (Nat.le_refl _) _
       have HB4 := Lib.hid (HB3.out.trans (hb4.mono HB3.out.size))
       have hp := prepare_any _ _ 3 [13, 13, 10] (rdB_lit w3 [13, 13, 10] (by decide)) (by decide) (HT.out.keep HB4.out)
       rw [HKP.out] at hp
       have HP : Hid (Calls Tryd.prog 13 #[.slice (some ⟨w3.heap.size, 0, none⟩) 3 3] (w3.alloc (.cells #[.int .u8 13, .int .u8 13, .int .u8 10] 5)) fun e w' => e = .returned (.string ⟨#[10, 10]⟩) ∧ Below (w3.alloc (.cells #[.int .u8 13, .int .u8 13, .int .u8 10] 5)).heap.size (w3.alloc (.cells #[.int .u8 13, .int .u8 13, .int .u8 10] 5)) w') := hp
       clear hb3 hb4 hp)
    | (go_at_call 13
       with_reducible refine HP.out.mono ?_
       rintro e w5 ⟨rfl, hb5⟩
       have HB5 := Lib.hid (HB4.out.trans (hb5.mono HB4.out.size))
       clear hb5))
  go_ret
  exact ⟨rfl, HB5.out⟩

set_option maxHeartbeats 4000000 in
set_option maxRecDepth 100000 in
theorem same_any (w : World) (A : Option Addr) (c : Nat) (l : List UInt8) (h : RdB w A c l) (hsz : l.length ≤ 10000) (hT : Tabs w) :
    Calls Tryd.prog 8 #[.slice A l.length c] w fun e w' => e = .returned (.bool true) ∧ Below w.heap.size w w' := by
  have HR := Lib.hid (roomy_any w A c l h (by omega))
  have HH := Lib.hid h
  have HT := Lib.hid hT
  have hdl := dec_len _ l (Nat.le_refl _)
  have hgood := dec_good _ l (Nat.le_refl _)
  have hint : ∀ x ∈ decU l, -2147483648 ≤ x ∧ x ≤ 2147483647 := fun x hx => by
    obtain ⟨n, hg, rfl⟩ := hgood x hx
    unfold goodR at hg
    omega
  have HI := Lib.hid hint
  have HDL := Lib.hid hdl
  clear h hT hdl hgood hint
  obtain ⟨n, hn⟩ : ∃ n, l.length = n := ⟨_, rfl⟩
  have hn80 : n ≤ n + 80 := by omega
  rw [hn] at HR hsz HDL ⊢
  have HN := Lib.hid hn
  clear hn
  go_enter Tryd.func8, Tryd.ntmps8
  go_wp2_with (first
    | (go_at_call 18
       with_reducible refine HR.out.mono ?_
       rintro e w1 ⟨g, rfl, hbk, hb1⟩
       have HBK := Lib.hid hbk
       have HB1 := Lib.hid hb1
       have hr := blk_rdB (c := l.length + 80) hbk l.length (by simp) (by omega) (by have := HN.out; unfold maxLen; omega)
       rw [take_left l _ _ rfl] at hr
       have hd := decode_any w1 _ _ l hr (by have := HN.out; omega) (HT.out.keep hb1)
       rw [HN.out] at hd
       have HD := Lib.hid hd
       clear hbk hb1 hr hd)
    | (go_at_call 15
       with_reducible refine HD.out.mono ?_
       rintro e w2 ⟨v, rfl, ho2, hb2⟩
       obtain ⟨A1, c1, rfl, hr2⟩ := ho2.rd
       have HR2 := Lib.hid hr2
       have HB2 := Lib.hid (HB1.out.trans (hb2.mono HB1.out.size))
       have HBK2 := Lib.hid (HBK.out.keep hb2)
       have hd := decode_ref w2 A c l (HH.out.keep HB2.out) (by have := HN.out; omega)
       rw [HN.out] at hd
       have HD2 := Lib.hid hd
       clear ho2 hb2 hr2 hd)
    | (go_at_call 19
       with_reducible refine HD2.out.mono ?_
       rintro e w3 ⟨v3, rfl, ho3, hb3⟩
       obtain ⟨A3, c3, rfl, hr3⟩ := ho3.rd
       have HB3 := Lib.hid (HB2.out.trans (hb3.mono HB2.out.size))
       have HBK3 := Lib.hid (HBK2.out.keep hb3)
       have HR3 := Lib.hid (HR2.out.keep hb3)
       have HS := Lib.hid (same_r w3 A1 A3 c1 c3 (decU l) (decU l) HR3.out.1 hr3.1 (by have := HDL.out; omega))
       clear ho3 hb3 hr3)
    | (go_at_call 14
       with_reducible refine HS.out.mono ?_
       rintro e w4 ⟨rfl, hb4⟩
       have HB4 := Lib.hid (HB3.out.trans (hb4.mono HB3.out.size))
       have HBK4 := Lib.hid (HBK3.out.keep hb4)
       have HR4 := Lib.hid (HR3.out.keep hb4)
       have hr := blk_rdB (c := l.length + 80) HBK4.out l.length (by simp) (by omega) (by have := HN.out; unfold maxLen; omega)
       rw [take_left l _ _ rfl] at hr
       have hp := prepare_any w4 _ _ l hr (by have := HN.out; omega) (HT.out.keep HB4.out)
       rw [HN.out] at hp
       have HP := Lib.hid hp
       clear hb4 hr hp)
    | (go_at_call 13
       with_reducible refine HP.out.mono ?_
       rintro e w5 ⟨rfl, hb5⟩
       have HB5 := Lib.hid (HB4.out.trans (hb5.mono HB4.out.size))
       have HBK5 := Lib.hid (HBK4.out.keep hb5)
       have HR5 := Lib.hid (HR4.out.keep hb5)
       have hp := prepare_ref w5 A c l (HH.out.keep HB5.out) (by have := HN.out; omega)
       rw [HN.out] at hp
       have HP2 := Lib.hid hp
       clear hb5 hp)
    | (go_at_call 20
       with_reducible refine HP2.out.mono ?_
       rintro e w6 ⟨rfl, hb6⟩
       have HB6 := Lib.hid (HB5.out.trans (hb6.mono HB5.out.size))
       have HBK6 := Lib.hid (HBK5.out.keep hb6)
       have HR6 := Lib.hid (HR5.out.keep hb6)
       have HE := Lib.hid (encode_any w6 A1 c1 (decU l) HR6.out (by have := HDL.out; omega) HI.out)
       clear hb6)
    | (go_at_call 11
       with_reducible refine HE.out.mono ?_
       rintro e w7 ⟨rfl, hb7⟩
       have HB7 := Lib.hid (HB6.out.trans (hb7.mono HB6.out.size))
       have HBK7 := Lib.hid (HBK6.out.keep hb7)
       have HE2 := Lib.hid (encode_ref w7 A1 c1 (decU l) (HR6.out.keep hb7) (by have := HDL.out; omega))
       have hi := intact_any w7 g A c l HBK7.out (HH.out.keep HB7.out) (by have := HN.out; omega)
       rw [HN.out] at hi
       have HIN := Lib.hid hi
       clear hb7 hi)
    | (go_at_call 12; with_reducible refine HE2.out.mono ?_; rintro e w' ⟨rfl, rfl⟩)
    | (go_at_call 21
       with_reducible refine HIN.out.mono ?_
       rintro e w8 ⟨rfl, hb8⟩
       have HB8 := Lib.hid (HB7.out.trans (hb8.mono HB7.out.size))
       clear hb8))
  go_ret
  exact ⟨rfl, HB8.out⟩
end Go.Proofs.YtpdbbpmkdkjppaaDoor
