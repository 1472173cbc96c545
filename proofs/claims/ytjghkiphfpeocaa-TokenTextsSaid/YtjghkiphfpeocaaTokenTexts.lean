/- TokenTexts, walked. -/
import Derived.Test.YtjghkiphfpeocaaTokK
import Derived.Test.YtjghkiphfpeocaaArgTok
import Derived.Test.YtjghkiphfpeocaaTokFit
import Derived.Test.YtjghkiphfpeocaaAfter
import Derived.LoopN
import Derived.Deep.CutBlock
import Derived.Deep.DeepCutAuto
namespace Go.Proofs.Ytjghkiphfpeocaa
open Go.RowKit Go.BigFrame


theorem row_rd {w : World} {base : Nat} {A : Option Addr} {n c : Nat} {l : List At} (h : RowA w base (.slice A n c) l) : RdA w A n l := by
  obtain ⟨A', c', e, hr⟩ := h.read
  injection e with e1 e2 e3
  rw [e1, e2]; exact hr
theorem nil_list : (⟨#[]⟩ : ByteArray).toList = [] := by decide +kernel
def signT (kd : Int) : ByteArray := if kd = 1 then ⟨#[33]⟩ else if kd = 2 then ⟨#[60]⟩ else if kd = 3 then ⟨#[47]⟩ else if kd = 4 then ⟨#[34]⟩ else if kd = 5 then ⟨#[45]⟩ else if kd = 6 then ⟨#[46]⟩ else ⟨#[63]⟩
def signsT : List ByteArray := [⟨#[33]⟩, ⟨#[60]⟩, ⟨#[47]⟩, ⟨#[34]⟩, ⟨#[45]⟩, ⟨#[46]⟩]
theorem startX_head (nm : ByteArray) (al : List At) : ∃ y, startX nm al = ⟨#[60]⟩ ++ y := by
  unfold startX
  have h : ∀ (l : List At) (y : ByteArray), ∃ z, l.foldl (fun o a => o ++ attrX a) ((⟨#[60]⟩ : ByteArray) ++ y) = ⟨#[60]⟩ ++ z := fun l => by
    induction l with
    | nil => exact fun y => ⟨y, rfl⟩
    | cons a l ih =>
      intro y
      obtain ⟨z, hz⟩ := ih (y ++ attrX a)
      exact ⟨z, by rw [List.foldl_cons, ByteArray.append_assoc, hz]⟩
  exact h al nm
theorem textT_sign (t : Tk) : ∃ y, textT t = signT t.kd ++ y := by
  unfold textT signT
  split
  · exact ⟨_, rfl⟩
  split
  · obtain ⟨y, hy⟩ := startX_head t.nm t.al
    split
    · exact ⟨y ++ ⟨#[47]⟩, by rw [hy, ByteArray.append_assoc]⟩
    · exact ⟨y, hy⟩
  split
  · exact ⟨_, rfl⟩
  split
  · exact ⟨_, rfl⟩
  split
  · exact ⟨_, rfl⟩
  split
  · exact ⟨⟨#[]⟩, rfl⟩
  · exact ⟨⟨#[]⟩, rfl⟩
theorem signT_size (kd : Int) : (signT kd).size = 1 := by
  unfold signT
  split <;> (try split) <;> (try split) <;> (try split) <;> (try split) <;> (try split) <;> rfl
theorem signT_at (k : Nat) (h : k < 6) : signsT[k]? = some (signT ((k : Int) + 1)) := by
  match k, h with
  | 0, _ => rfl
  | 1, _ => rfl
  | 2, _ => rfl
  | 3, _ => rfl
  | 4, _ => rfl
  | 5, _ => rfl
theorem signT_out (kd : Int) (h : kd < 1 ∨ 6 < kd) : signT kd = ⟨#[63]⟩ := by
  unfold signT
  rw [if_neg (by omega), if_neg (by omega), if_neg (by omega), if_neg (by omega), if_neg (by omega), if_neg (by omega)]
theorem cutone (a y : ByteArray) (h : a.size = 1) : (a ++ y).extract 0 1 = a := by
  apply ByteArray.ext
  apply Array.toList_inj.1
  have h1 := B_piece (a ++ y) 0 1
  unfold B at h1
  rw [h1, ByteArray.data_append, Array.toList_append, List.drop_zero]
  exact List.take_left' (by have := h; rw [ByteArray.size, Array.size] at this; exact this)
theorem texts_told (a b : Tk) (h : a.kd = b.kd) (h2 : a.kd = 3 ∨ a.kd = 1) : ((textT a).toList == (textT b).toList) = (a.nm.toList == b.nm.toList) := by
  have key : ∀ (s x y : ByteArray), (((s ++ x).toList == (s ++ y).toList) = (x.toList == y.toList)) := fun s x y => by
    rw [Bool.eq_iff_iff, beq_iff_eq, beq_iff_eq]
    simp only [Lib.toList_data, ByteArray.data_append, Array.toList_append, List.append_cancel_left_eq]
  unfold textT
  rcases h2 with h2 | h2
  · rw [← h, h2]; exact key _ _ _
  · rw [← h, h2]; exact key _ _ _
set_option maxHeartbeats 4000000 in
set_option maxRecDepth 100000 in
theorem walk_TokenTexts (a0 : Tk) (A0 : Option Addr) (c0 : Nat) (a1 : Tk) (A1 : Option Addr) (c1 : Nat) (w : World) (hL : Lax w) (hr0 : RdA w A0 a0.al.length a0.al) (hk0 : a0.ok) (hr1 : RdA w A1 a1.al.length a1.al) (hk1 : a1.ok) :
    Calls Try.prog 6 #[tkG a0 A0 c0, tkG a1 A1 c1] w fun e w' => e = .returned (.bool true) ∧ Below w.heap.size w w' := by
  have hb0 := (below_tokG w #[.int .i64 a0.kd, .string a0.nm, .slice A0 a0.al.length c0, .bool a0.sf, .string a0.tx]).alloc (by simp) (.cells #[.int .i64 a1.kd, .string a1.nm, .slice A1 a1.al.length c1, .bool a1.sf, .string a1.tx] 34)
  have hT := (Blk.new w 34 #[.int .i64 a0.kd, .string a0.nm, .slice A0 a0.al.length c0, .bool a0.sf, .string a0.tx] (0, 0)).alloc (.cells #[.int .i64 a1.kd, .string a1.nm, .slice A1 a1.al.length c1, .bool a1.sf, .string a1.tx] 34)
  have hU := Blk.new (w.alloc (.cells #[.int .i64 a0.kd, .string a0.nm, .slice A0 a0.al.length c0, .bool a0.sf, .string a0.tx] 34)) 34 #[.int .i64 a1.kd, .string a1.nm, .slice A1 a1.al.length c1, .bool a1.sf, .string a1.tx] (0, 0)
  rw [show (w.alloc (.cells #[.int .i64 a0.kd, .string a0.nm, .slice A0 a0.al.length c0, .bool a0.sf, .string a0.tx] 34)).heap.size = w.heap.size + 1 by simp] at hU
  obtain ⟨W0, hW0⟩ : ∃ W0, W0 = (w.alloc (.cells #[.int .i64 a0.kd, .string a0.nm, .slice A0 a0.al.length c0, .bool a0.sf, .string a0.tx] 34)).alloc (.cells #[.int .i64 a1.kd, .string a1.nm, .slice A1 a1.al.length c1, .bool a1.sf, .string a1.tx] 34) := ⟨_, rfl⟩
  have HW := Lib.hid hW0.symm
  rw [← hW0] at hb0 hT hU
  have HS0 := Lib.hid (show W0.heap.size = w.heap.size + 2 by rw [hW0]; simp)
  have HF0 := Lib.hid (fun W (h : Below W0.heap.size W0 W) => few_any a0 A0 c0 W (hr0.keep (below_both hb0 h)) hk0)
  have HF1 := Lib.hid (fun W (h : Below W0.heap.size W0 W) => few_any a1 A1 c1 W (hr1.keep (below_both hb0 h)) hk1)
  have HT := Lib.hid hT
  have HU := Lib.hid hU
  have HB0 := Lib.hid hb0
  have HL := Lib.hid hL
  have HBW := Lib.hid (made_drew W0)
  obtain ⟨k0, k1, k2, k3, k4, f0, f1, f2, f3, f4⟩ := cells_tokG hT
  obtain ⟨m0, m1, m2, m3, m4, g0, g1, g2, g3, g4⟩ := cells_tokG hU
  unfold tkG at HF0 HF1 ⊢
  clear hW0 hr0 hk0 hr1 hk1 hT hU hb0 hL
  go_enter Try.func6, Try.ntmps6
  go_upto_region 1 with (fail)
  go_cut [] (fun wx => ∃ A5 c5 A6 c6, Hid (Blk wx w.heap.size 34 #[.int .i64 (fewT a0).kd, .string (fewT a0).nm, .slice A5 (fewT a0).al.length c5, .bool (fewT a0).sf, .string (fewT a0).tx] (0, 0)) ∧ Hid (Blk wx (w.heap.size + 1) 34 #[.int .i64 (fewT a1).kd, .string (fewT a1).nm, .slice A6 (fewT a1).al.length c6, .bool (fewT a1).sf, .string (fewT a1).tx] (0, 0)) ∧ Hid (RdA wx A5 (fewT a0).al.length (fewT a0).al) ∧ Hid (RdA wx A6 (fewT a1).al.length (fewT a1).al) ∧ Hid (Below w.heap.size w wx))
  case first =>
    rw [HW.out]
    go_region_with ((
      go_at_call 15
      first
        | (with_reducible refine (HF0.out _ HBW.out).mono ?_
           rintro e wx ⟨A5, c5, rfl, hr5, b5⟩
           have HBW := Lib.hid (below_then HBW.out HBW.out.size b5)
           try have HR6 := Lib.hid (HR6.out.keep b5)
           have HR5 := Lib.hid hr5
           obtain ⟨k0, k1, k2, k3, k4, f0, f1, f2, f3, f4⟩ := cells_tokG (HT.out.keep HBW.out)
           obtain ⟨m0, m1, m2, m3, m4, g0, g1, g2, g3, g4⟩ := cells_tokG (HU.out.keep HBW.out)
           unfold tkG
           clear hr5 b5)
        | (with_reducible refine (HF1.out _ HBW.out).mono ?_
           rintro e wx ⟨A6, c6, rfl, hr6, b6⟩
           have HBW := Lib.hid (below_then HBW.out HBW.out.size b6)
           try have HR5 := Lib.hid (HR5.out.keep b6)
           have HR6 := Lib.hid hr6
           obtain ⟨k0, k1, k2, k3, k4, f0, f1, f2, f3, f4⟩ := cells_tokG (HT.out.keep HBW.out)
           obtain ⟨m0, m1, m2, m3, m4, g0, g1, g2, g3, g4⟩ := cells_tokG (HU.out.keep HBW.out)
           unfold tkG
           clear hr6 b6)))
    all_goals
      go_wp2_with fail
      go_meet
      have ht := HT.out.keep HBW.out
      have hu := HU.out.keep HBW.out
      obtain ⟨z5, r5⟩ := set5_tokG ht (HR5.out.le (Nat.zero_le _)) (.int .i64 (fewT a0).kd) (.string (fewT a0).nm) (.slice A5 (fewT a0).al.length c5) (.bool (fewT a0).sf) (.string (fewT a0).tx)
      have r6 := (set5_tokG ht (HR6.out.le (Nat.zero_le _)) (.int .i64 (fewT a0).kd) (.string (fewT a0).nm) (.slice A5 (fewT a0).al.length c5) (.bool (fewT a0).sf) (.string (fewT a0).tx)).2
      have hu1 := ((((hu.far (p := ⟨w.heap.size, 0, none⟩) (by simp) (.int .i64 (fewT a0).kd)).far (p := ⟨w.heap.size, 1, none⟩) (by simp) (.string (fewT a0).nm)).far (p := ⟨w.heap.size, 2, none⟩) (by simp) (.slice A5 (fewT a0).al.length c5)).far (p := ⟨w.heap.size, 3, none⟩) (by simp) (.bool (fewT a0).sf)).far (p := ⟨w.heap.size, 4, none⟩) (by simp) (.string (fewT a0).tx)
      obtain ⟨z6, r66⟩ := set5_tokG hu1 r6 (.int .i64 (fewT a1).kd) (.string (fewT a1).nm) (.slice A6 (fewT a1).al.length c6) (.bool (fewT a1).sf) (.string (fewT a1).tx)
      have r55 := (set5_tokG hu1 r5 (.int .i64 (fewT a1).kd) (.string (fewT a1).nm) (.slice A6 (fewT a1).al.length c6) (.bool (fewT a1).sf) (.string (fewT a1).tx)).2
      have z56 := ((((z5.far (p := ⟨w.heap.size + 1, 0, none⟩) (by simp) (.int .i64 (fewT a1).kd)).far (p := ⟨w.heap.size + 1, 1, none⟩) (by simp) (.string (fewT a1).nm)).far (p := ⟨w.heap.size + 1, 2, none⟩) (by simp) (.slice A6 (fewT a1).al.length c6)).far (p := ⟨w.heap.size + 1, 3, none⟩) (by simp) (.bool (fewT a1).sf)).far (p := ⟨w.heap.size + 1, 4, none⟩) (by simp) (.string (fewT a1).tx)
      have hb := below_then HB0.out HB0.out.size HBW.out
      exact ⟨A5, c5, A6, c6, z56, z6, row_rd r55, row_rd r66, set5_belowG (set5_belowG hb (Nat.le_refl _) _ _ _ _ _) (Nat.le_succ _) _ _ _ _ _⟩
  case rest =>
    obtain ⟨A5, c5, A6, c6, HT5, HU5, HR5, HR6, HB5⟩ := hcut
    have FX := Lib.hid (few_fits a0)
    have FY := Lib.hid (few_fits a1)
    generalize fewT a0 = x at *
    generalize fewT a1 = y at *
    clear HF0 HF1 HT HU HB0 HBW k0 k1 k2 k3 k4 f0 f1 f2 f3 f4 m0 m1 m2 m3 m4 g0 g1 g2 g3 g4 HW HS0
    obtain ⟨W1, hW1⟩ : ∃ W1, W1 = wc.alloc (.cells #[.string ⟨#[33]⟩, .string ⟨#[60]⟩, .string ⟨#[47]⟩, .string ⟨#[34]⟩, .string ⟨#[45]⟩, .string ⟨#[46]⟩] 9) := ⟨_, rfl⟩
    have HW1 := Lib.hid hW1.symm
    have hS := Blk.new wc 9 #[.string ⟨#[33]⟩, .string ⟨#[60]⟩, .string ⟨#[47]⟩, .string ⟨#[34]⟩, .string ⟨#[45]⟩, .string ⟨#[46]⟩] (0, 0)
    rw [← hW1] at hS
    have b1 : Below wc.heap.size wc W1 := by rw [hW1]; exact (Below.refl _ _).alloc (Nat.le_refl _) _
    have HS1 := Lib.hid (show W1.heap.size = wc.heap.size + 1 by rw [hW1]; simp)
    obtain ⟨W2, hW2⟩ : ∃ W2, W2 = W1.alloc (.cells #[.int .i64 x.kd, .string x.nm, .slice A5 x.al.length c5, .bool x.sf, .string x.tx, .int .i64 y.kd, .string y.nm, .slice A6 y.al.length c6, .bool y.sf, .string y.tx] 34) := ⟨_, rfl⟩
    have HW2 := Lib.hid hW2.symm
    have hK := Blk.new W1 34 #[.int .i64 x.kd, .string x.nm, .slice A5 x.al.length c5, .bool x.sf, .string x.tx, .int .i64 y.kd, .string y.nm, .slice A6 y.al.length c6, .bool y.sf, .string y.tx] (0, 0)
    rw [← hW2] at hK
    have b2 : Below W1.heap.size W1 W2 := by rw [hW2]; exact (Below.refl _ _).alloc (Nat.le_refl _) _
    have b12 := below_both b1 b2
    have HK := Lib.hid hK
    rw [HS1.out] at HK
    have HSG := Lib.hid (hS.keep b2)
    have HT6 := Lib.hid (HT5.out.keep b12)
    have HU6 := Lib.hid (HU5.out.keep b12)
    have HRX := Lib.hid (HR5.out.keep b12)
    have HRY := Lib.hid (HR6.out.keep b12)
    have HB6 := Lib.hid (below_then HB5.out HB5.out.size b12)
    obtain ⟨k0, k1, k2, k3, k4, _⟩ := cells_tokG (HT5.out.keep b1)
    obtain ⟨m0, m1, m2, m3, m4, _⟩ := cells_tokG (HU5.out.keep b1)
    rw [hW1] at k0 k1 k2 k3 k4 m0 m1 m2 m3 m4
    clear hW1 hW2 hS hK b1 b2 b12
    go_upto_block 0 with (fail)
    rw [HW1.out, HW2.out]
    clear k0 k1 k2 k3 k4 m0 m1 m2 m3 m4 HT5 HU5 HR5 HR6 HB5 HW1 HW2
    go_cut [] (fun wx => Below W2.heap.size W2 wx)
    case first =>
      go_wp2_with fail
      go_loopw [19] (fun i wr => ∃ j : Nat, j ≤ 2 ∧ i = .int .i64 j ∧ Below W2.heap.size W2 wr) (fun i _ => 2 - (intOf i).toNat)
      case atStart => exact ⟨0, by omega, rfl, Below.refl _ _⟩
      case round =>
        obtain ⟨j, hj, rfl, hb⟩ := hrel
        have HB := Lib.hid hb
        clear hb
        by_cases hlt : j < 2
        · have HKW := Lib.hid (HK.out.keep HB.out)
          have HC : Hid (∃ (z : Tk) (A : Option Addr) (c : Nat), wr.cell? ⟨wc.heap.size + 1, j * 5, none⟩ = some (.int .i64 z.kd) ∧ wr.cell? ⟨wc.heap.size + 1, j * 5 + 1, none⟩ = some (.string z.nm) ∧ wr.cell? ⟨wc.heap.size + 1, j * 5 + 2, none⟩ = some (.slice A z.al.length c) ∧ wr.cell? ⟨wc.heap.size + 1, j * 5 + 3, none⟩ = some (.bool z.sf) ∧ wr.cell? ⟨wc.heap.size + 1, j * 5 + 4, none⟩ = some (.string z.tx) ∧ RdA W2 A z.al.length z.al ∧ (z.fits ∧ z.al.length ≤ 6)) := by
            have hk := HKW.out
            rcases (show j = 0 ∨ j = 1 by omega) with rfl | rfl
            · exact ⟨x, A5, c5, hk.cell 0, hk.cell 1, hk.cell 2, hk.cell 3, hk.cell 4, HRX.out, FX.out.1, FX.out.2.1⟩
            · exact ⟨y, A6, c6, hk.cell 5, hk.cell 6, hk.cell 7, hk.cell 8, hk.cell 9, HRY.out, FY.out.1, FY.out.2.1⟩
          obtain ⟨z, A, c, k0, k1, k2, k3, k4, hrz, hfz, hlz⟩ := HC.out
          have hb7 := below_tokG wr #[.int .i64 z.kd, .string z.nm, .slice A z.al.length c, .bool z.sf, .string z.tx]
          have h7 := Blk.new wr 34 #[.int .i64 z.kd, .string z.nm, .slice A z.al.length c, .bool z.sf, .string z.tx] (0, 0)
          have HTX := Lib.hid (text_any z A c (wr.alloc (.cells #[.int .i64 z.kd, .string z.nm, .slice A z.al.length c, .bool z.sf, .string z.tx] 34)) hfz (by omega) (hrz.keep (below_then HB.out HB.out.size hb7)))
          have HSM := Lib.hid (fun W (h : Below wr.heap.size wr W) => tsame_any z z A A c c W ((hrz.keep HB.out).keep h) ((hrz.keep HB.out).keep h) (by omega))
          rw [sameT_self] at HSM
          have H7 := Lib.hid h7
          have HB7 := Lib.hid hb7
          have HSS := Lib.hid (HSG.out.keep HB.out)
          obtain ⟨yy, hyy⟩ := textT_sign z
          have hsz := signT_size z.kd
          have hs1 : (textT z).size = 1 + yy.size := by rw [hyy, ByteArray.size_append, hsz]
          have hs2 : (textT z).extract 0 1 = signT z.kd := by rw [hyy]; exact cutone _ _ hsz
          unfold tkG at HTX HSM
          generalize textT z = s at *
          have hsn : Hid (s ≠ ⟨#[]⟩) := fun e => by rw [e] at hs1; have : (⟨#[]⟩ : ByteArray).size = 0 := rfl; omega
          have hs3 : (1 : Int) ≤ (s.size : Int) := by omega
          have d0 : decide ((j : Int) < 2) = true := decide_eq_true (by omega)
          have w1 : IntKind.i64.wrap ((j : Int) + 1) = (j : Int) + 1 := IntWalk.i64_in _ (by omega)
          clear hb7 h7 hyy hsz
          by_cases hin : 1 ≤ z.kd ∧ z.kd ≤ 6
          · obtain ⟨g1, g2⟩ := hin
            have d1 : decide (z.kd ≥ 1) = true := decide_eq_true g1
            have d2 : decide (z.kd ≤ 6) = true := decide_eq_true g2
            obtain ⟨kd, nm, al, sf, tx⟩ := z
            simp only at *
            obtain ⟨k, rfl⟩ : ∃ k : Nat, kd = (k : Int) + 1 := ⟨(kd - 1).toNat, by omega⟩
            have hcs : signsT[k]? = some (signT ((k : Int) + 1)) := signT_at k (by omega)
            have HSB := Lib.hid (fun W (h : Below wr.heap.size wr W) => ((HSS.out.keep h).cell k).trans (show (#[Value.string ⟨#[33]⟩, .string ⟨#[60]⟩, .string ⟨#[47]⟩, .string ⟨#[34]⟩, .string ⟨#[45]⟩, .string ⟨#[46]⟩] : Array Value)[k]? = some (.string (signT ((k : Int) + 1))) by
              have h : (signsT.map Value.string)[k]? = some (.string (signT ((k : Int) + 1))) := by rw [List.getElem?_map, hcs]; rfl
              simpa [signsT] using h))
            generalize signT ((k : Int) + 1) = sg at *
            have sw : IntKind.i64.wrap ((k : Int)) = (k : Int) := IntWalk.i64_in _ (by omega)
            have sl : (k : Int) < 6 := by omega
            have e1 : (s.toList == []) = false := by rw [← nil_list]; exact bytes_ne hsn.out
            clear hcs hsn
            go_wp2_with fail
            refine HTX.out.mono ?_
            rintro e wt ⟨rfl, bt⟩
            obtain ⟨p0, p1, p2, p3, p4, _⟩ := cells_tokG (H7.out.keep bt)
            have HB8 := Lib.hid (below_both HB7.out bt)
            have c5 := HSB.out _ HB8.out
            clear bt k0 k1 k2 k3 k4
            go_wp2_with fail
            refine (HSM.out _ HB8.out).mono ?_
            rintro e ws ⟨rfl, bs⟩
            have HB9 := Lib.hid (below_then HB.out HB.out.size (below_both HB8.out bs))
            clear bs p0 p1 p2 p3 p4 c5
            go_wp2_with fail
            exact ⟨⟨j + 1, by omega, by go_num, HB9.out⟩, by simp [intOf]; omega⟩
          · obtain ⟨kd, nm, al, sf, tx⟩ := z
            simp only at *
            have e1 : (s.toList == []) = false := by rw [← nil_list]; exact bytes_ne hsn.out
            have hso : signT kd = ⟨#[63]⟩ := signT_out kd (by omega)
            rw [hso] at hs2
            have hd : decide (kd ≥ 1) = false ∨ (decide (kd ≥ 1) = true ∧ decide (kd ≤ 6) = false) := by
              by_cases h : kd ≥ 1
              · exact .inr ⟨decide_eq_true h, decide_eq_false (by omega)⟩
              · exact .inl (decide_eq_false h)
            clear hsn hso hin
            rcases hd with d1 | ⟨d1, d2⟩
            all_goals
              go_wp2_with fail
              refine HTX.out.mono ?_
              rintro e wt ⟨rfl, bt⟩
              obtain ⟨p0, p1, p2, p3, p4, _⟩ := cells_tokG (H7.out.keep bt)
              have HB8 := Lib.hid (below_both HB7.out bt)
              clear bt k0 k1 k2 k3 k4
              go_wp2_with fail
              refine (HSM.out _ HB8.out).mono ?_
              rintro e ws ⟨rfl, bs⟩
              have HB9 := Lib.hid (below_then HB.out HB.out.size (below_both HB8.out bs))
              clear bs p0 p1 p2 p3 p4
              go_wp2_with fail
              exact ⟨⟨j + 1, by omega, by go_num, HB9.out⟩, by simp [intOf]; omega⟩
        · have d0 : decide ((j : Int) < 2) = false := decide_eq_false (by omega)
          go_wp2_with fail
          go_meet
          exact HB.out
    case rest =>
      have HBc := Lib.hid (below_then HB6.out HB6.out.size hcut)
      have HTc := Lib.hid (HT6.out.keep hcut)
      have HUc := Lib.hid (HU6.out.keep hcut)
      have HRXc := Lib.hid (HRX.out.keep hcut)
      have HRYc := Lib.hid (HRY.out.keep hcut)
      clear HB6 HT6 HU6 HRX HRY HSG HK hcut
      have hks : ∀ W, Below wc.heap.size wc W → (W.cell? ⟨w.heap.size, 0, none⟩ = some (.int .i64 x.kd) ∧ W.cell? ⟨w.heap.size, 1, none⟩ = some (.string x.nm) ∧ W.cell? ⟨w.heap.size, 2, none⟩ = some (.slice A5 x.al.length c5) ∧ W.cell? ⟨w.heap.size, 3, none⟩ = some (.bool x.sf) ∧ W.cell? ⟨w.heap.size, 4, none⟩ = some (.string x.tx) ∧
          W.cell? ⟨w.heap.size + 1, 0, none⟩ = some (.int .i64 y.kd) ∧ W.cell? ⟨w.heap.size + 1, 1, none⟩ = some (.string y.nm) ∧ W.cell? ⟨w.heap.size + 1, 2, none⟩ = some (.slice A6 y.al.length c6) ∧ W.cell? ⟨w.heap.size + 1, 3, none⟩ = some (.bool y.sf) ∧ W.cell? ⟨w.heap.size + 1, 4, none⟩ = some (.string y.tx)) := fun W hW => by
        obtain ⟨p0, p1, p2, p3, p4, _⟩ := cells_tokG (HTc.out.keep hW)
        obtain ⟨q0, q1, q2, q3, q4, _⟩ := cells_tokG (HUc.out.keep hW)
        exact ⟨p0, p1, p2, p3, p4, q0, q1, q2, q3, q4⟩
      have KS := Lib.hid hks
      have HTX := Lib.hid (fun W (h : Below wc.heap.size wc W) => text_any x A5 c5 W FX.out.1 (by have := FX.out.2.1; omega) (HRXc.out.keep h))
      have HTY := Lib.hid (fun W (h : Below wc.heap.size wc W) => text_any y A6 c6 W FY.out.1 (by have := FY.out.2.1; omega) (HRYc.out.keep h))
      have HSX := Lib.hid (fun W (h : Below wc.heap.size wc W) => tsame_any x y A5 A6 c5 c6 W (HRXc.out.keep h) (HRYc.out.keep h) (by have := FX.out.2.1; omega))
      have HSY := Lib.hid (fun W (h : Below wc.heap.size wc W) => tsame_any y x A6 A5 c6 c5 W (HRYc.out.keep h) (HRXc.out.keep h) (by have := FY.out.2.1; omega))
      have HTT := Lib.hid (texts_told x y)
      rw [sameT_comm y x] at HSY
      unfold tkG at HTX HTY HSX HSY
      generalize sameT x y = sb at *
      generalize textT x = sx at *
      generalize textT y = sy at *
      obtain ⟨kx, nx, lx, fx, tx⟩ := x
      obtain ⟨ky, ny, ly, fy, ty⟩ := y
      simp only at *
      clear hks HTc HUc
      have HDB := Lib.hid (made_drew wc)
      have cc0 : ∀ n : After wc, n.W.cell? ⟨w.heap.size, 0, none⟩ = some (.int .i64 kx) := fun n => (KS.out _ n.below).1
      have cc1 : ∀ n : After wc, n.W.cell? ⟨w.heap.size, 1, none⟩ = some (.string nx) := fun n => (KS.out _ n.below).2.1
      have cc2 : ∀ n : After wc, n.W.cell? ⟨w.heap.size, 2, none⟩ = some (.slice A5 lx.length c5) := fun n => (KS.out _ n.below).2.2.1
      have cc3 : ∀ n : After wc, n.W.cell? ⟨w.heap.size, 3, none⟩ = some (.bool fx) := fun n => (KS.out _ n.below).2.2.2.1
      have cc4 : ∀ n : After wc, n.W.cell? ⟨w.heap.size, 4, none⟩ = some (.string tx) := fun n => (KS.out _ n.below).2.2.2.2.1
      have cc5 : ∀ n : After wc, n.W.cell? ⟨w.heap.size + 1, 0, none⟩ = some (.int .i64 ky) := fun n => (KS.out _ n.below).2.2.2.2.2.1
      have cc6 : ∀ n : After wc, n.W.cell? ⟨w.heap.size + 1, 1, none⟩ = some (.string ny) := fun n => (KS.out _ n.below).2.2.2.2.2.2.1
      have cc7 : ∀ n : After wc, n.W.cell? ⟨w.heap.size + 1, 2, none⟩ = some (.slice A6 ly.length c6) := fun n => (KS.out _ n.below).2.2.2.2.2.2.2.1
      have cc8 : ∀ n : After wc, n.W.cell? ⟨w.heap.size + 1, 3, none⟩ = some (.bool fy) := fun n => (KS.out _ n.below).2.2.2.2.2.2.2.2.1
      have cc9 : ∀ n : After wc, n.W.cell? ⟨w.heap.size + 1, 4, none⟩ = some (.string ty) := fun n => (KS.out _ n.below).2.2.2.2.2.2.2.2.2
      have HKN := Lib.hid tok_known
      have hcase : (kx == ky) = false ∨ ((kx == ky) = true ∧ (kx == 3) = false ∧ (kx == 1) = false) ∨ (∃ b, (kx == ky) = true ∧ (kx == 3) = true ∧ (sx.toList == sy.toList) = b ∧ (nx.toList == ny.toList) = b) ∨ (∃ b, (kx == ky) = true ∧ (kx == 3) = false ∧ (kx == 1) = true ∧ (sx.toList == sy.toList) = b ∧ (nx.toList == ny.toList) = b) := by
        by_cases h : kx = ky
        · have hq : (kx == ky) = true := beq_iff_eq.2 h
          by_cases h3 : kx = 3
          · exact .inr (.inr (.inl ⟨_, hq, beq_iff_eq.2 h3, HTT.out h (.inl h3), rfl⟩))
          · by_cases h1 : kx = 1
            · exact .inr (.inr (.inr ⟨_, hq, beq_eq_false_iff_ne.2 h3, beq_iff_eq.2 h1, HTT.out h (.inr h1), rfl⟩))
            · exact .inr (.inl ⟨hq, beq_eq_false_iff_ne.2 h3, beq_eq_false_iff_ne.2 h1⟩)
        · exact .inl (beq_eq_false_iff_ne.2 h)
      clear HTT
      rcases hcase with q0 | ⟨q0, q3, q1⟩ | ⟨b, q0, q3, q5, q6⟩ | ⟨b, q0, q3, q1, q5, q6⟩
      all_goals
        try cases b
      all_goals
        go_wp2_with fail
        refine wp_region_after (by kernel_rfl) (by kernel_rfl) ?_
        repeat (any_goals (go_big_quiet_step ((go_at_call 19; first | with_reducible exact call_after (HTX.out _ (After.below _)) | with_reducible exact call_after (HTY.out _ (After.below _))))))
        refine wpQuiet_nil ?_
        rintro w' ⟨n, rfl⟩
        go_wp2_with fail
        clear cc0 cc1 cc2 cc3 cc4 cc5 cc6 cc7 cc8 cc9
        have ee0 : ∀ m : After n.W, m.W.cell? ⟨w.heap.size, 0, none⟩ = some (.int .i64 kx) := fun m => (KS.out _ (below_both n.below m.below)).1
        have ee1 : ∀ m : After n.W, m.W.cell? ⟨w.heap.size, 1, none⟩ = some (.string nx) := fun m => (KS.out _ (below_both n.below m.below)).2.1
        have ee2 : ∀ m : After n.W, m.W.cell? ⟨w.heap.size, 2, none⟩ = some (.slice A5 lx.length c5) := fun m => (KS.out _ (below_both n.below m.below)).2.2.1
        have ee3 : ∀ m : After n.W, m.W.cell? ⟨w.heap.size, 3, none⟩ = some (.bool fx) := fun m => (KS.out _ (below_both n.below m.below)).2.2.2.1
        have ee4 : ∀ m : After n.W, m.W.cell? ⟨w.heap.size, 4, none⟩ = some (.string tx) := fun m => (KS.out _ (below_both n.below m.below)).2.2.2.2.1
        have ee5 : ∀ m : After n.W, m.W.cell? ⟨w.heap.size + 1, 0, none⟩ = some (.int .i64 ky) := fun m => (KS.out _ (below_both n.below m.below)).2.2.2.2.2.1
        have ee6 : ∀ m : After n.W, m.W.cell? ⟨w.heap.size + 1, 1, none⟩ = some (.string ny) := fun m => (KS.out _ (below_both n.below m.below)).2.2.2.2.2.2.1
        have ee7 : ∀ m : After n.W, m.W.cell? ⟨w.heap.size + 1, 2, none⟩ = some (.slice A6 ly.length c6) := fun m => (KS.out _ (below_both n.below m.below)).2.2.2.2.2.2.2.1
        have ee8 : ∀ m : After n.W, m.W.cell? ⟨w.heap.size + 1, 3, none⟩ = some (.bool fy) := fun m => (KS.out _ (below_both n.below m.below)).2.2.2.2.2.2.2.2.1
        have ee9 : ∀ m : After n.W, m.W.cell? ⟨w.heap.size + 1, 4, none⟩ = some (.string ty) := fun m => (KS.out _ (below_both n.below m.below)).2.2.2.2.2.2.2.2.2
        have HBn := Lib.hid n.below
        refine wp_region_after (by kernel_rfl) (by kernel_rfl) ?_
        repeat (any_goals (go_big_quiet_step ((first
          | (go_at_call 20; first | with_reducible exact call_after (HSX.out _ (below_both HBn.out (After.below _))) | with_reducible exact call_after (HSY.out _ (below_both HBn.out (After.below _))))
          | (go_at_call 18; exact call_after (HKN.out _))))))
        refine wpQuiet_nil ?_
        rintro w' ⟨m, rfl⟩
        go_wp2_with fail
        go_ret
        exact ⟨rfl, below_then HBc.out HBc.out.size (below_both HBn.out m.below)⟩
end Go.Proofs.Ytjghkiphfpeocaa
