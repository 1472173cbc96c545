/- utf.Prepare: what is made ready. -/
import Derived.Test.YtpdbbpmkdkjppaaDoorUtfS
import Derived.Lib.SlBytesConst
namespace Go.Proofs.YtpdbbpmkdkjppaaDoor
open Go.RowKit

theorem replaceAll_any (s old new : ByteArray) (w : World) (hne : old ≠ new) (h1 : 1 ≤ old.size) (ho4 : old.size ≤ 4) (hn4 : new.size ≤ 4) (hs : s.size ≤ 10000000) (hT : Tabs w) (g : Nat) (hg : (s.size : Int) + (Lib.count (B s) (B old) : Int) * ((new.size : Int) - (old.size : Int)) = g) (hg1 : g ≤ 100000000)
    (hR : (subA (B old) (B new) (B s)).length ≤ 100000000) :
    Calls Tryd.prog 24 #[.string s, .string old, .string new] w fun e w' => e = .returned (.string (S (subA (B old) (B new) (B s)))) ∧ Below w.heap.size w w' := by
  have HC := Lib.hid (replace_any s old new w hne h1 ho4 hn4 hs hT g hg hg1 hR)
  clear hne h1 ho4 hn4 hs hT hg hg1 hR
  go_enter Tryd.func24, Tryd.ntmps24
  go_wp2_with (go_at_call 30; with_reducible refine HC.out.mono ?_; rintro e w' ⟨rfl, hb⟩)
  go_ret
  exact ⟨rfl, hb⟩
def crlfS : ByteArray := ⟨#[13, 10]⟩
def crS : ByteArray := ⟨#[13]⟩
def lfS : ByteArray := ⟨#[10]⟩
def nulS : ByteArray := ⟨#[0]⟩
def badS : ByteArray := ⟨#[239, 191, 189]⟩
theorem count_le1 (l old : List UInt8) (h : 1 ≤ old.length) : Lib.count l old ≤ l.length := by
  have := Lib.countB_le (S old) (by rw [size_S]; exact h) _ (S l) (Nat.le_refl _)
  rw [size_S] at this
  exact this
theorem rep_cut (w : World) (D : List Int) (hD : ∀ x ∈ D, GoodI x) (hsz : D.length ≤ 1000000) (hT : Tabs w) :
    Calls Tryd.prog 24 #[.string (S (encI D)), .string ⟨#[13, 10]⟩, .string ⟨#[10]⟩] w fun e w' => e = .returned (.string (S (encI (cutR D)))) ∧ Below w.heap.size w w' := by
  have hl := enc_len D
  have hz := size_S (encI D)
  have hc := count_le1 (encI D) [13, 10] (by simp)
  have hsub := sub_cut _ D (Nat.le_refl _) hD
  have hcl : (cutR D).length ≤ D.length := by
    clear hsub hc hz hl hsz hT hD
    induction D with
    | nil => exact Nat.le_refl _
    | cons x t ih =>
      rw [cutR_cons]
      split
      · rw [List.length_cons]; omega
      · rw [List.length_cons, List.length_cons]; omega
  have hl2 := enc_len (cutR D)
  have e : subA (B crlfS) (B lfS) (B (S (encI D))) = encI (cutR D) := hsub
  have h := replaceAll_any (S (encI D)) crlfS lfS w (by decide) (by decide) (by decide) (by decide) (by omega) hT ((encI D).length - Lib.count (encI D) [13, 10]) (by
    rw [hz]
    show ((encI D).length : Int) + (Lib.count (encI D) [13, 10] : Int) * (((1 : Nat) : Int) - ((2 : Nat) : Int)) = _
    omega) (by omega) (by rw [e]; omega)
  rw [e] at h
  exact h
theorem map_len (D : List Int) (f : Int → Int) : (D.map f).length = D.length := List.length_map _
theorem rep_ten (w : World) (D : List Int) (hD : ∀ x ∈ D, GoodI x) (hsz : D.length ≤ 1000000) (hT : Tabs w) :
    Calls Tryd.prog 24 #[.string (S (encI D)), .string ⟨#[13]⟩, .string ⟨#[10]⟩] w fun e w' => e = .returned (.string (S (encI (tenR D)))) ∧ Below w.heap.size w w' := by
  have hl := enc_len D
  have hz := size_S (encI D)
  have hsub := sub_map (k := 13) (by omega) 10 D hD
  have hl2 := enc_len (tenR D)
  have hl3 : (tenR D).length = D.length := map_len _ _
  rw [show utfN 10 = [10] from utf_one (c := 10) (by decide)] at hsub
  have e : subA (B crS) (B lfS) (B (S (encI D))) = encI (tenR D) := hsub
  have h := replaceAll_any (S (encI D)) crS lfS w (by decide) (by decide) (by decide) (by decide) (by omega) hT (encI D).length (by
    rw [hz]
    show ((encI D).length : Int) + (Lib.count (encI D) [13] : Int) * (((1 : Nat) : Int) - ((1 : Nat) : Int)) = _
    omega) (by omega) (by rw [e]; omega)
  rw [e] at h
  exact h
theorem rep_bad (w : World) (D : List Int) (hD : ∀ x ∈ D, GoodI x) (hsz : D.length ≤ 1000000) (hT : Tabs w) :
    Calls Tryd.prog 24 #[.string (S (encI D)), .string ⟨#[0]⟩, .string ⟨#[239, 191, 189]⟩] w fun e w' => e = .returned (.string (S (encI (badR D)))) ∧ Below w.heap.size w w' := by
  have hl := enc_len D
  have hz := size_S (encI D)
  have hc := count_le1 (encI D) [0] (by simp)
  have hsub := sub_map (k := 0) (by omega) 65533 D hD
  have hl2 := enc_len (badR D)
  have hl3 : (badR D).length = D.length := map_len _ _
  rw [utf_bad] at hsub
  have e : subA (B nulS) (B badS) (B (S (encI D))) = encI (badR D) := hsub
  have h := replaceAll_any (S (encI D)) nulS badS w (by decide) (by decide) (by decide) (by decide) (by omega) hT ((encI D).length + 2 * Lib.count (encI D) [0]) (by
    rw [hz]
    show ((encI D).length : Int) + (Lib.count (encI D) [0] : Int) * (((3 : Nat) : Int) - ((1 : Nat) : Int)) = _
    omega) (by omega) (by rw [e]; omega)
  rw [e] at h
  exact h
def numsB (l : List UInt8) : List Int := l.map fun x => (x.toNat : Int)
theorem bytesOf_nums (l : List UInt8) : Lib.bytesOf (numsB l) = l := by
  unfold Lib.bytesOf numsB
  rw [List.map_map]
  conv => rhs; rw [← List.map_id l]
  apply List.map_congr_left
  intro x _
  simp
theorem numsB_at {l : List UInt8} {i : Nat} {x : UInt8} (h : l[i]? = some x) : (numsB l).getD i 0 = (x.toNat : Int) := by
  unfold numsB
  rw [List.getD_eq_getElem?_getD, List.getElem?_map, h]
  rfl
theorem RdB.bytesIn {w : World} {A : Option Addr} {c : Nat} {l : List UInt8} (h : RdB w A c l) : Lib.BytesIn w A l.length (numsB l) := fun h0 => by
  obtain ⟨b, o, e, hc⟩ := h.cell h0
  refine ⟨b, o, e, fun i hi => ?_⟩
  have hx := List.getElem?_eq_getElem hi
  rw [numsB_at hx]
  exact hc i _ hx
theorem trim_any (w : World) (A : Option Addr) (c : Nat) (l : List UInt8) (h : RdB w A c l) (A2 : Option Addr) (h2 : RdB w A2 3 [239, 187, 191]) :
    Calls Tryd.prog 23 #[.slice A l.length c, .slice A2 3 3] w fun e w' => (∃ A' c', e = .returned (.slice A' (trimU l).length c') ∧ RdB w A' c' (trimU l)) ∧ w = w' := by
  have hC := Tryd.bytes_TrimPrefix_all A A2 l.length c 3 3 (numsB l) (numsB [239, 187, 191]) w (by simp [numsB]) rfl h.2.1 h.bytesIn h2.bytesIn
  refine hC.mono fun e w' ⟨he, hw⟩ => ⟨?_, hw.symm⟩
  by_cases h0 : 0 < l.length
  · obtain ⟨b, o, rfl, _⟩ := h.cell h0
    have ev : Lib.trimPrefixV (some ⟨b, o, none⟩) l.length c (numsB l) (numsB [239, 187, 191]) = if markU l = true then Lib.sliceFrom b o l.length c 3 else .slice (some ⟨b, o, none⟩) l.length c := by
      show Lib.bytesTrimPrefix _ _ _ _ _ _ = _
      unfold Lib.bytesTrimPrefix
      rw [bytesOf_nums, bytesOf_nums]
      rfl
    rw [ev] at he
    unfold trimU
    by_cases hm : markU l = true
    · rw [if_pos hm] at he
      rw [if_pos hm]
      have h3 : 3 ≤ l.length := by
        have := Lib.hasPrefix_le (s := l) (p := [239, 187, 191]) hm
        simpa using this
      refine ⟨_, c - 3, ?_, h.drop 3 h3 (if c = 3 then some ⟨b, o, none⟩ else some ⟨b, o + 3, none⟩) (fun hl => ?_)⟩
      · rw [he, List.length_drop]
        rfl
      · have := h.2.1
        rw [if_neg (by omega)]
    · rw [if_neg hm] at he
      rw [if_neg hm]
      exact ⟨_, _, he, h⟩
  · obtain rfl : l = [] := List.eq_nil_of_length_eq_zero (by omega)
    have ev : Lib.trimPrefixV A 0 c (numsB []) (numsB [239, 187, 191]) = .slice A 0 c := by
      unfold Lib.trimPrefixV
      split
      · unfold Lib.bytesTrimPrefix
        rw [bytesOf_nums, if_neg]
        unfold Lib.hasPrefix
        have : ∀ ys : List UInt8, ys ≠ [] → ¬ (ys.isPrefixOf ([] : List UInt8) = true) := fun ys hy => by
          cases ys with
          | nil => exact absurd rfl hy
          | cons a t => simp
        refine this _ ?_
        simp_all [numsB, Lib.bytesOf]
      · rfl
    refine ⟨A, c, ?_, h⟩
    rw [he]
    exact congrArg _ ev

set_option maxHeartbeats 2000000 in
set_option maxRecDepth 100000 in
theorem prepare_any (w : World) (A : Option Addr) (c : Nat) (l : List UInt8) (h : RdB w A c l) (hsz : l.length ≤ 100000) (hT : Tabs w) :
    Calls Tryd.prog 13 #[.slice A l.length c] w fun e w' => e = .returned (.string (S (prepU l))) ∧ Below w.heap.size w w' := by
  have hb0 : Below w.heap.size w (w.alloc (.cells #[.int .u8 239, .int .u8 187, .int .u8 191] 5 (3, 4))) := (Below.refl _ _).alloc (Nat.le_refl _) _
  have h2 : RdB (w.alloc (.cells #[.int .u8 239, .int .u8 187, .int .u8 191] 5 (3, 4))) (some ⟨w.heap.size, 0, none⟩) 3 [239, 187, 191] := by
    refine RdB.of (Nat.le_refl _) (by decide) fun j x hj => ?_
    rw [Nat.zero_add, (Blk.new w 5 #[.int .u8 239, .int .u8 187, .int .u8 191] (3, 4)).cell j]
    match j, hj with
    | 0, hj => cases hj; rfl
    | 1, hj => cases hj; rfl
    | 2, hj => cases hj; rfl
  have HTR := Lib.hid (trim_any _ A c l (h.keep hb0) _ h2)
  have htl := trim_len l
  have hgood := dec_good _ (trimU l) (Nat.le_refl _)
  have hdl := dec_len _ (trimU l) (Nat.le_refl _)
  have HGD := Lib.hid hgood
  have HDL := Lib.hid hdl
  have HTL := Lib.hid htl
  have HB0 := Lib.hid hb0
  have HT := Lib.hid hT
  have hint : ∀ x ∈ decU (trimU l), -2147483648 ≤ x ∧ x ≤ 2147483647 := fun x hx => by
    obtain ⟨n, hg, rfl⟩ := hgood x hx
    unfold goodR at hg
    omega
  have HI := Lib.hid hint
  have HP : Hid (prepU l = encI (badR (tenR (cutR (decU (trimU l)))))) := by
    show _ = _
    rw [three_prep]
    rfl
  have hcl : Hid ((cutR (decU (trimU l))).length ≤ 1000000) := by
    show _ ≤ _
    have : ∀ D : List Int, (cutR D).length ≤ D.length := fun D => by
      induction D with
      | nil => exact Nat.le_refl _
      | cons x t ih =>
        rw [cutR_cons]
        split
        · rw [List.length_cons]; omega
        · rw [List.length_cons, List.length_cons]; omega
    have := this (decU (trimU l))
    omega
  clear h h2 hb0 htl hgood hdl hT hint
  have kc := fun (w : World) (C : Array Value) (n c : Nat) => Lib.run_convert_bytes_const (P := Tryd.prog) w 23 5 C n c Tryd.underlying23 Tryd.underlying5
  generalize l.length = n at *
  generalize prepU l = pr at *
  go_enter Tryd.func13, Tryd.ntmps13
  go_wp2_with (first
    | (go_at_call 23
       with_reducible refine HTR.out.mono ?_
       rintro e w' ⟨⟨A1, c1, rfl, hr1⟩, rfl⟩
       have HD := Lib.hid (decode_any _ A1 c1 (trimU l) hr1 (by have := HTL.out; omega) (HT.out.keep HB0.out))
       clear hr1)
    | (go_at_call 15
       with_reducible refine HD.out.mono ?_
       rintro e w2 ⟨v, rfl, ho2, hb2⟩
       obtain ⟨A3, c3, rfl, hr3⟩ := ho2.rd
       have HB2 := Lib.hid (HB0.out.trans (hb2.mono HB0.out.size))
       have HE := Lib.hid (encode_any w2 A3 c3 _ hr3 (by have := HTL.out; have := HDL.out; omega) HI.out)
       clear ho2 hb2 hr3)
    | (go_at_call 11
       with_reducible refine HE.out.mono ?_
       rintro e w3 ⟨rfl, hb3⟩
       have HB3 := Lib.hid (HB2.out.trans (hb3.mono HB2.out.size))
       have HR1 := Lib.hid (rep_cut w3 _ HGD.out (by have := HTL.out; have := HDL.out; omega) (HT.out.keep HB3.out))
       clear hb3)
    | (go_at_call 24
       with_reducible refine HR1.out.mono ?_
       rintro e w4 ⟨rfl, hb4⟩
       have HB4 := Lib.hid (HB3.out.trans (hb4.mono HB3.out.size))
       have HR2 := Lib.hid (rep_ten w4 _ (cut_good HGD.out) hcl.out (HT.out.keep HB4.out))
       clear hb4 HR1)
    | (go_at_call 24
       with_reducible refine HR2.out.mono ?_
       rintro e w5 ⟨rfl, hb5⟩
       have HB5 := Lib.hid (HB4.out.trans (hb5.mono HB4.out.size))
       have HR3 := Lib.hid (rep_bad w5 _ (ten_good (cut_good HGD.out)) (by have := hcl.out; have := map_len (cutR (decU (trimU l))) (fun x => if x = 13 then 10 else x); unfold tenR; omega) (HT.out.keep HB5.out))
       clear hb5 HR2)
    | (go_at_call 24
       with_reducible refine HR3.out.mono ?_
       rintro e w6 ⟨rfl, hb6⟩))
  go_ret
  refine ⟨ret_strU ?_, HB5.out.trans (hb6.mono HB5.out.size)⟩
  rw [HP.out]
end Go.Proofs.YtpdbbpmkdkjppaaDoor
