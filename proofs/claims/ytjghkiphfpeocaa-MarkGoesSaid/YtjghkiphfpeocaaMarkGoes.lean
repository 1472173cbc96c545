/- MarkGoes, walked. -/
import Derived.Test.YtjghkiphfpeocaaMarkGoesR
import Derived.Test.YtjghkiphfpeocaaMarkRights
import Derived.Test.YtjghkiphfpeocaaMarkTells
import Derived.Test.YtjghkiphfpeocaaMarkComments
namespace Go.Proofs.Ytjghkiphfpeocaa
open Go.RowKit

def headsB : List ByteArray := [⟨#[60, 33, 45, 45]⟩, ⟨#[60, 33]⟩, ⟨#[60, 63]⟩, ⟨#[60, 47, 32]⟩, ⟨#[60, 33, 91, 67, 68, 65, 84, 65, 91]⟩]
/-- The beginning that a number stands for. -/
def headAtB (k : Nat) : ByteArray := headsB[k]?.getD ⟨#[]⟩
theorem headAtB_in (k : Nat) (hk : k < 5) : headAtB k ∈ headsB := by
  unfold headAtB
  rw [List.getElem?_eq_getElem (show k < headsB.length from hk)]
  exact List.getElem_mem _
theorem headAtB_len (k : Nat) (hk : k < 5) : (headAtB k).size ≤ 9 := (by decide : ∀ x ∈ headsB, x.size ≤ 9) _ (headAtB_in k hk)
theorem headAtB_began (k : Nat) (hk : k < 5) : Began (B (headAtB k)) := by
  have h : ∀ x ∈ headsB, (startsL (B x) [60, 33] 0 = true ∨ startsL (B x) [60, 63] 0 = true ∨ startsL (B x) [60, 47, 32] 0 = true) := by decide
  exact h _ (headAtB_in k hk)
theorem headB_cell (w : World) (k : Nat) (hk : k < 5) : (w.alloc (.cells #[.string ⟨#[60, 33, 45, 45]⟩, .string ⟨#[60, 33]⟩, .string ⟨#[60, 63]⟩, .string ⟨#[60, 47, 32]⟩, .string ⟨#[60, 33, 91, 67, 68, 65, 84, 65, 91]⟩] 9)).cell? ⟨w.heap.size, k, none⟩ = some (.string (headAtB k)) := by
  obtain ⟨ad, e, hc⟩ := (rd_lit w 9 headsB).2.2 (by decide)
  cases e
  have hx : headsB[k]? = some (headAtB k) := by
    unfold headAtB
    rw [List.getElem?_eq_getElem (show k < headsB.length from hk)]; rfl
  have := strs_at hc hx
  rw [add0] at this
  exact this
theorem headB_below (w : World) : Below w.heap.size w (w.alloc (.cells #[.string ⟨#[60, 33, 45, 45]⟩, .string ⟨#[60, 33]⟩, .string ⟨#[60, 63]⟩, .string ⟨#[60, 47, 32]⟩, .string ⟨#[60, 33, 91, 67, 68, 65, 84, 65, 91]⟩] 9)) := (Below.refl _ _).alloc (Nat.le_refl _) _
theorem starts_more {a b sub : List UInt8} (h : startsL a sub 0 = true) : startsL (a ++ b) sub 0 = true := by
  unfold startsL Lib.occAt at *
  rw [List.isPrefixOf_iff_prefix, List.drop_zero] at *
  exact h.trans (List.prefix_append a b)
theorem began_more {a b : List UInt8} (h : Began a) : Began (a ++ b) := by
  rcases h with h | h | h
  · exact .inl (starts_more h)
  · exact .inr (.inl (starts_more h))
  · exact .inr (.inr (starts_more h))
theorem piece_le (l : List UInt8) (i j : Nat) : (pieceL l i j).length ≤ l.length := by
  unfold pieceL
  rw [List.length_take, List.length_drop]
  omega
theorem com_name (l : List UInt8) (i : Nat) : (commentM l i).1.name = [] := by
  unfold commentM
  repeat' split
  all_goals rfl
theorem data_name (l : List UInt8) (i : Nat) : (dataM l i).1.name = [] := by
  unfold dataM
  show (if findL l endC i = i then noTm else _).name = []
  split <;> rfl
theorem read_name (l : List UInt8) (fo : Bool) (h : 0 < l.length) : (readM l 0 fo).1.name.length ≤ l.length := by
  rw [read_zero l fo h]
  split
  · rw [com_name]; exact Nat.zero_le _
  · split
    · show (lowL _).length ≤ _
      rw [lowL_length]
      exact piece_le _ _ _
    · split
      · rw [data_name]; exact Nat.zero_le _
      · repeat' split
        all_goals exact Nat.zero_le _
theorem okT_S {kd : Int} {nm tx : List UInt8} (h : OkT ⟨kd, nm, tx⟩) : kd = 0 ∨ (kd = 5 ∧ S nm = ⟨#[]⟩) ∨ (kd = 4 ∧ S nm = ⟨#[]⟩ ∧ B (S tx) ≠ []) ∨ (kd = 1 ∧ S tx = ⟨#[]⟩ ∧ lowL (B (S nm)) = B (S nm)) := by
  rcases h with h | ⟨h1, h2⟩ | ⟨h1, h2, h3⟩ | ⟨h1, h2, h3⟩
  · exact .inl h
  · exact .inr (.inl ⟨h1, by rw [show nm = [] from h2, S_nil]⟩)
  · exact .inr (.inr (.inl ⟨h1, by rw [show nm = [] from h2, S_nil], by rw [B_S]; exact h3⟩))
  · exact .inr (.inr (.inr ⟨h1, by rw [show tx = [] from h2, S_nil], by rw [B_S]; exact h3⟩))
theorem B_take (x : ByteArray) (n : Nat) : B (x.extract 0 n) = (B x).take n := by
  rw [B_piece, List.drop_zero, Nat.sub_zero]

set_option maxHeartbeats 4000000 in
set_option maxRecDepth 100000 in
theorem walk_MarkGoes (A : Option Addr) (c : Nat) (l : List Int) (how : Int) (fo : Bool) (a3 : ByteArray) (w3 : a3.size ≤ maxLen) (w : World) (hL : Lax w) (hr : Rd w A l.length 1 (l.flatMap enc_int)) (_hlc : l.length ≤ c) (_hcm : c ≤ maxLen) :
    Calls Try.prog 9 #[.slice A l.length c, .int .i64 how, .bool fo, .string a3] w fun e w' => e = .returned (.bool true) ∧ Below w.heap.size w w' := by
  unfold maxLen at w3
  have hm := headB_le a3 20
  have HH := Lib.hid (fun w => head_any a3 20 w (by omega) (by omega))
  rw [show (20 : Int).toNat = 20 from rfl] at HH
  generalize headB a3 20 = m at *
  have HR := Lib.hid hr
  have HL := Lib.hid hL
  clear hr hL w3
  go_enter Try.func9, Try.ntmps9
  go_wp2_with fail
  refine (bwithin_any _ _ _ _ (by omega) (by omega) (by omega)).mono ?_
  rintro e w1 ⟨rfl, rfl⟩
  obtain ⟨k, hk, hk1, hk2⟩ := mnat_of (Int.le_refl 0) (withinI_bd how 0 4 (by omega))
  rw [hk]
  clear hk
  have hcell := headB_cell w k (by omega)
  have hb0 := headB_below w
  have hlen := headAtB_len k (by omega)
  have hbg := headAtB_began k (by omega)
  generalize headAtB k = x at *
  have HC := Lib.hid hcell
  have HB0 := Lib.hid hb0
  have HX := Lib.hid hlen
  have HG := Lib.hid hbg
  clear hb0 hlen hbg
  go_upto_block 0 with (fail)
  clear hcell
  have hb0 := HB0.out
  obtain ⟨wa, hwa⟩ : ∃ wa, wa = w.alloc (.cells #[.string ⟨#[60, 33, 45, 45]⟩, .string ⟨#[60, 33]⟩, .string ⟨#[60, 63]⟩, .string ⟨#[60, 47, 32]⟩, .string ⟨#[60, 33, 91, 67, 68, 65, 84, 65, 91]⟩] 9) := ⟨_, rfl⟩
  rw [← hwa] at hb0 HB0 HC
  rw [show w.alloc (.cells #[.string ⟨#[60, 33, 45, 45]⟩, .string ⟨#[60, 33]⟩, .string ⟨#[60, 63]⟩, .string ⟨#[60, 47, 32]⟩, .string ⟨#[60, 33, 91, 67, 68, 65, 84, 65, 91]⟩] 9) = wa from hwa.symm]
  clear hwa
  go_cut [9] (fun s9 wx => ∃ x : ByteArray, s9 = .string x ∧ x.size ≤ 114 ∧ Began (B x) ∧ Below w.heap.size w wx)
  case first =>
    go_wp2_with fail
    go_loopw [9, 10] (fun xv iv wr => ∃ (j : Nat) (x : ByteArray), j ≤ l.length ∧ j ≤ 15 ∧ x.size ≤ 9 + 7 * j ∧ Began (B x) ∧ xv = .string x ∧ iv = .int .i64 j ∧ Below w.heap.size w wr) (fun _ iv _ => l.length - (intOf iv).toNat)
    case atStart => exact ⟨0, x, Nat.zero_le _, by omega, HX.out, HG.out, rfl, rfl, HB0.out⟩
    case round =>
      obtain ⟨j, x, hj, hj20, hx, hbg, rfl, rfl, hb⟩ := hrel
      have HB := Lib.hid hb
      have HBG := Lib.hid hbg
      clear hb hbg
      by_cases hlt : j < l.length ∧ j < 15
      · obtain ⟨hlt, h20⟩ := hlt
        have d0 : decide ((j : Int) < (l.length : Int)) = true := decide_eq_true (by omega)
        have d1 : decide ((j : Int) < 15) = true := decide_eq_true (by omega)
        obtain ⟨y, hy⟩ : ∃ y, l[j]? = some y := ⟨_, List.getElem?_eq_getElem hlt⟩
        obtain ⟨a1, rfl, hc1⟩ := (HR.out.keep HB.out).2.2 (by omega)
        have k1 := hc1 j _ (by have := row_at encOk_int l j 0 y _ hy rfl; simpa using this)
        have s1 : IntKind.i64.wrap ((j : Int) + 1) = (j : Int) + 1 := IntWalk.i64_in _ (by omega)
        have hp := pieceAt_len y
        clear hc1 hy
        go_wp2_with fail
        refine (piece_any y _).mono ?_
        rintro e w2 ⟨rfl, b2⟩
        have HB2 := Lib.hid (below_then HB.out HB.out.size b2)
        have hsum : x.size + (pieceAt y).size ≤ 9223372036854775807 := by omega
        generalize pieceAt y = z at *
        clear b2
        have HBG2 := Lib.hid (show Began (B (x ++ z)) by rw [app_B]; exact began_more HBG.out)
        go_wp2_with fail
        exact ⟨⟨j + 1, x ++ z, by omega, by omega, by rw [ByteArray.size_append]; omega, HBG2.out, rfl, by go_num, HB2.out⟩, by simp [intOf]; omega⟩
      · have hcase : (decide ((j : Int) < (l.length : Int)) = false ∧ ¬ j < l.length) ∨ (decide ((j : Int) < (l.length : Int)) = true ∧ decide ((j : Int) < 15) = false ∧ j < l.length ∧ ¬ j < 15) := by
          by_cases h1 : j < l.length
          · exact .inr ⟨decide_eq_true (by omega), decide_eq_false (by omega), h1, by omega⟩
          · exact .inl ⟨decide_eq_false (by omega), h1⟩
        clear hlt
        rcases hcase with ⟨d0, m0⟩ | ⟨d0, d1, m0, m1⟩
        all_goals
          go_wp2_with fail
          go_meet
          exact ⟨x, rfl, by omega, HBG.out, HB.out⟩
  case rest =>
    obtain ⟨x, rfl, hx2, hbg, hb⟩ := hcut
    have HB := Lib.hid hb
    have HBG := Lib.hid hbg
    clear hb hbg
    have hrd := mread_any x 0 fo wc (by omega) (HL.out.below HB.out)
    obtain ⟨hokT, ⟨n, hn, hn2, hnl⟩, hok⟩ := began_ok HBG.out fo
    have hbl := began_len HBG.out
    have hnmS := read_name (B x) fo (by omega)
    have hloc : ∀ m' : List UInt8, (B x)[n - 1]? = some 62 → n < (B x).length → readM ((B x).take n ++ m') 0 fo = readM (B x) 0 fo := fun m' h1 h2 =>
      read_local (n := n) ⟨by omega, by rw [List.length_append, List.length_take]; omega, by rw [List.take_append_of_le_length (by rw [List.length_take]; omega), List.take_take, Nat.min_self]⟩ fo (by omega) h1 ⟨hn, h2⟩ hok (began_no6 HBG.out)
    rw [← size_B] at hnl hnmS hbl
    simp only [← size_B] at hloc
    generalize readM (B x) 0 fo = r at *
    obtain ⟨⟨kd, nmL, txL⟩, rn, rb⟩ := r
    simp only at hn hok hokT hnmS
    subst hn hok
    have hoks := okT_S hokT
    have hnz : (S nmL).size ≤ 140737488355328 := by rw [size_S]; omega
    simp only [valM, tkM] at hrd
    have HLOC := Lib.hid hloc
    have hkd : kd = 0 ∨ kd = 5 ∨ kd = 4 ∨ kd = 1 := by
      rcases hoks with h | ⟨h, _⟩ | ⟨h, _⟩ | ⟨h, _⟩
      · exact .inl h
      · exact .inr (.inl h)
      · exact .inr (.inr (.inl h))
      · exact .inr (.inr (.inr h))
    have HTK := Lib.hid (fun w => token_keep ⟨kd, nmL, txL⟩ w)
    simp only [tkM] at HTK
    have HRT := Lib.hid (fun w (h : kd ≠ 0) => right_mark kd (S nmL) (S txL) w h hnz hoks)
    have HSV : Hid (∀ b : ByteArray, readM (B b) 0 fo = (⟨kd, nmL, txL⟩, (n : Int), true) → ∀ W, b.size ≤ 65536 → Below w.heap.size w W → Calls Try.prog 22 #[.string b, .int .i64 0, .bool fo] W fun e w' => e = .returned (.tuple #[.agg #[.int .i64 kd, .string (S nmL), .slice none 0 0, .bool false, .string (S txL)], .int .i64 (n : Int), .bool true]) ∧ Below W.heap.size W w') := fun b hb W hs hW => by
      have h := mread_any b 0 fo W hs (HL.out.below hW)
      rw [hb] at h
      exact h
    generalize S nmL = nm at *
    generalize S txL = tx at *
    have HRD := Lib.hid hrd
    have e2 : (kd == 2) = false := by rcases hkd with rfl | rfl | rfl | rfl <;> decide
    have e3 : (kd == 3) = false := by rcases hkd with rfl | rfl | rfl | rfl <;> decide
    have e6 : (kd == 6) = false := by rcases hkd with rfl | rfl | rfl | rfl <;> decide
    have g1 : decide ((n : Int) < 2) = false := decide_eq_false (by omega)
    have g2 : decide ((n : Int) > (x.size : Int)) = false := decide_eq_false (by omega)
    clear hrd hloc hokT hoks hnz hnmS hkd
    go_wp2_with fail
    refine HRD.out.mono ?_
    rintro e w1 ⟨rfl, b1⟩
    have hA := new_tok w1 (.int .i64 kd) (.string nm) (.slice none 0 0) (.bool false) (.string tx)
    have b2 := (below_then HB.out HB.out.size b1).alloc (below_then HB.out HB.out.size b1).size (.cells #[.int .i64 kd, .string nm, .slice none 0 0, .bool false, .string tx] 34)
    clear b1
    go_upto_region 7 with (fail)
    obtain ⟨w2, hw2⟩ : ∃ w2, w2 = w1.alloc (.cells #[.int .i64 kd, .string nm, .slice none 0 0, .bool false, .string tx] 34) := ⟨_, rfl⟩
    rw [← hw2] at hA b2
    rw [show w1.alloc (.cells #[.int .i64 kd, .string nm, .slice none 0 0, .bool false, .string tx] 34) = w2 from hw2.symm]
    clear hw2
    have HA := Lib.hid hA
    have HB2 := Lib.hid b2
    clear hA b2
    obtain ⟨p0, p1, p2, p3, p4⟩ := cells_tok HA.out
    go_cut [82] (fun s82 wx => s82 = .bool false ∧ Below w2.heap.size w2 wx)
    case first =>
      by_cases hk0 : kd = 0
      · have e0 : (kd != 0) = false := by rw [hk0]; rfl
        clear hk0
        go_wp2_with fail
        go_meet
        exact ⟨by rw [decide_eq_false (by omega)], Below.refl _ _⟩
      · have e0 : (kd != 0) = true := by rw [bne_iff_ne]; exact hk0
        have HK := Lib.hid hk0
        clear hk0
        go_wp2_with fail
        refine (HRT.out _ HK.out).mono ?_
        rintro e w4 ⟨rfl, b4⟩
        go_wp2_with fail
        go_meet
        exact ⟨by rw [decide_eq_false (by omega)], b4⟩
    case rest =>
      obtain ⟨rfl, hbx⟩ := hcut
      have hks : ∀ W, Below wc.heap.size wc W → (W.cell? ⟨w1.heap.size, 0, none⟩ = some (.int .i64 kd) ∧ W.cell? ⟨w1.heap.size, 1, none⟩ = some (.string nm) ∧ W.cell? ⟨w1.heap.size, 2, none⟩ = some (.slice none 0 0) ∧ W.cell? ⟨w1.heap.size, 3, none⟩ = some (.bool false) ∧ W.cell? ⟨w1.heap.size, 4, none⟩ = some (.string tx)) := fun W hW => cells_tok ((HA.out.keep hbx).keep hW)
      have KS := Lib.hid hks
      have HBC := Lib.hid (below_then HB2.out HB2.out.size hbx)
      clear p0 p1 p2 p3 p4 hks hbx
      have hlt1 : n - 1 < x.size := by omega
      have sw : IntKind.i64.wrap ((n : Int) - 1) = (n : Int) - 1 := IntWalk.i64_in _ (by omega)
      have s10 : ((n : Int) - 1).toNat = n - 1 := by omega
      have s11 : (0 : Int) ≤ (n : Int) - 1 := by omega
      have s12 : (n : Int) - 1 < (x.size : Int) := by omega
      have hat := B_at x (n - 1) hlt1
      by_cases h62 : x[n - 1] = 62
      · have d5 : ((x[n - 1].toNat : Int) != 62) = false := by rw [h62]; rfl
        by_cases hne : n = x.size
        · have d6 : ((n : Int) == (x.size : Int)) = true := by rw [beq_iff_eq]; omega
          clear hat h62 hne
          go_wp2_with fail
          refine (mknown_any _ (HL.out.below HBC.out)).mono ?_
          rintro e w5 ⟨rfl, b5⟩
          have HB5 := Lib.hid (below_then HBC.out HBC.out.size b5)
          clear b5
          go_wp2_with fail
          go_ret
          exact ⟨rfl, HB5.out⟩
        · have d6 : ((n : Int) == (x.size : Int)) = false := by rw [beq_eq_false_iff_ne]; omega
          rw [h62] at hat
          have hex := size_extract_le x 0 n
          have hbs : (x.extract 0 n ++ m).size ≤ 65536 := by rw [ByteArray.size_append]; omega
          have hrd2 := (fun W hW => HSV.out (x.extract 0 n ++ m) (by rw [app_B, B_take]; exact HLOC.out (B m) hat (by omega)) W hbs hW)
          have q1 : (x.extract 0 n).size + m.size ≤ 9223372036854775807 := by omega
          have q2 : ¬ (9223372036854775807 < (x.extract 0 n).size + m.size) := by omega
          obtain ⟨p, hp⟩ : ∃ p, x.extract 0 n = p := ⟨_, rfl⟩
          rw [hp] at q1 q2 hrd2
          have HRD2 := Lib.hid hrd2
          clear hrd2 hex
          have t1 : ((n : Int) == (n : Int)) = true := by simp
          have HZN := Lib.hid (Blk.new wc 34 #[.int .i64 0, .string ⟨#[]⟩, .slice none 0 0, .bool false, .string ⟨#[]⟩] (0, 0))
          have HDA := Lib.hid (made_alloc (Below.refl wc.heap.size wc) (.cells #[.int .i64 0, .string ⟨#[]⟩, .slice none 0 0, .bool false, .string ⟨#[]⟩] 34)).drew
          have HRDA := Lib.hid (HRD2.out (wc.alloc (.cells #[.int .i64 0, .string ⟨#[]⟩, .slice none 0 0, .bool false, .string ⟨#[]⟩] 34)).drew (below_then HBC.out HBC.out.size HDA.out))
          have HZD := Lib.hid (show Blk (wc.alloc (.cells #[.int .i64 0, .string ⟨#[]⟩, .slice none 0 0, .bool false, .string ⟨#[]⟩] 34)).drew wc.heap.size 34 #[.int .i64 0, .string ⟨#[]⟩, .slice none 0 0, .bool false, .string ⟨#[]⟩] (0, 0) from HZN.out)
          have HRDB := Lib.hid (HRD2.out wc.drew (below_then HBC.out HBC.out.size (made_drew wc)))
          clear HRD2
          clear hat h62 hne hbs
          go_wp2_with fail
          go_region_held3 (fun _ => True)
            (exact trivial)
            (first
              | (go_at_call 12
                 refine (HH.out _).mono ?_
                 rintro e w' ⟨rfl, rfl⟩)
              | (go_at_call 22
                 first
                   | (with_reducible refine HRDB.out.mono ?_
                      rintro e w5 ⟨rfl, b5⟩
                      have HW := Lib.hid (below_then (made_drew wc) (made_drew wc).size b5)
                      clear b5)
                   | (with_reducible refine HRDA.out.mono ?_
                      rintro e w5 ⟨rfl, b5⟩
                      have HW := Lib.hid (below_then HDA.out HDA.out.size b5)
                      obtain ⟨z0, z1, z2, z3, z4, f0, f1, f2, f3, f4⟩ := var_tok (HZD.out.keep b5)
                      clear b5)))
          all_goals
            first
              | (have hz := z0
                 clear hz
                 have hb6 := set5_below HW.out (Nat.le_refl _) (.int .i64 kd) (.string nm) (.slice none 0 0) (.bool false) (.string tx)
                 obtain ⟨p0, p1, p2, p3, p4⟩ := KS.out _ hb6
                 have HB6 := Lib.hid (below_then HBC.out HBC.out.size hb6)
                 clear hb6
                 go_wp2_with fail
                 refine (HTK.out _).mono ?_
                 rintro e w7 ⟨rfl, b7⟩
                 have HB7 := Lib.hid (below_then HB6.out HB6.out.size b7)
                 clear b7
                 go_wp2_with fail
                 refine (mknown_any _ (HL.out.below HB7.out)).mono ?_
                 rintro e w8 ⟨rfl, b8⟩
                 have HB8 := Lib.hid (below_then HB7.out HB7.out.size b8)
                 clear b8
                 go_wp2_with fail
                 go_ret
                 exact ⟨rfl, HB8.out⟩)
              | (have hb6 := made_alloc HW.out (.cells #[.int .i64 kd, .string nm, .slice none 0 0, .bool false, .string tx] 34)
                 obtain ⟨p0, p1, p2, p3, p4⟩ := KS.out _ hb6
                 have HB6 := Lib.hid (below_then HBC.out HBC.out.size hb6)
                 clear hb6
                 go_wp2_with fail
                 refine (HTK.out _).mono ?_
                 rintro e w7 ⟨rfl, b7⟩
                 have HB7 := Lib.hid (below_then HB6.out HB6.out.size b7)
                 clear b7
                 go_wp2_with fail
                 refine (mknown_any _ (HL.out.below HB7.out)).mono ?_
                 rintro e w8 ⟨rfl, b8⟩
                 have HB8 := Lib.hid (below_then HB7.out HB7.out.size b8)
                 clear b8
                 go_wp2_with fail
                 go_ret
                 exact ⟨rfl, HB8.out⟩)
      · have d5 : ((x[n - 1].toNat : Int) != 62) = true := by
          rw [bne_iff_ne]
          exact fun e => h62 (UInt8.toNat_inj.1 (by show _ = 62; omega))
        clear hat h62
        go_wp2_with fail
        refine (mknown_any _ (HL.out.below HBC.out)).mono ?_
        rintro e w5 ⟨rfl, b5⟩
        have HB5 := Lib.hid (below_then HBC.out HBC.out.size b5)
        clear b5
        go_wp2_with fail
        go_ret
        exact ⟨rfl, HB5.out⟩
end Go.Proofs.Ytjghkiphfpeocaa
