/- UtfJoins. -/
import Derived.Test.YtpdbbpmkdkjppaaDoorUtfK
namespace Go.Proofs.YtpdbbpmkdkjppaaDoor
open Go.RowKit

theorem and127 : ∀ x < 256, bits .and .u8 ((x : Nat) : Int) 127 = ((x % 128 : Nat) : Int) := by decide +kernel
theorem rd_one_b (w1 : World) (x : Int) : Rd (w1.alloc (.cells #[.int .u8 x] 5)) (some ⟨w1.heap.size, 0, none⟩) 1 1 [.int .u8 x] := by
  refine ⟨rfl, fun u hu => ?_, fun _ => ⟨_, rfl, fun j u hu => ?_⟩⟩
  · simp only [List.mem_cons, List.mem_nil_iff, or_false] at hu
    subst hu; rfl
  · have hb := Blk.new w1 5 #[.int .u8 x] (0, 0)
    rw [add0, hb.cell j]
    simpa using hu
theorem owns_alloc {w w1 : World} {e : TypeId} {k n : Nat} {v : Value} {xs : List Value} (h : w1.ownsRow w.heap.size e k v n xs) (o : Obj) : (w1.alloc o).ownsRow w.heap.size e k v n xs := owns_but h (But.of_below ((Below.refl _ _).alloc (Nat.le_refl _) o)) (S := fun _ => False) (fun _ _ h => h)
theorem owns_keep {w1 w2 : World} {b : Nat} {e : TypeId} {k n : Nat} {v : Value} {xs : List Value} (h : w1.ownsRow b e k v n xs) (hb : Below w1.heap.size w1 w2) : w2.ownsRow b e k v n xs := owns_but h (But.of_below hb) (S := fun _ => False) (fun _ _ h => h)
theorem dec_joined (a b : List UInt8) (k : Nat) (hk : k < 128) : decU (a ++ UInt8.ofNat k :: b) = decU a ++ (k : Int) :: decU b := by
  have e : (UInt8.ofNat k).toNat = k := ofNat_nat (by omega)
  have := dec_join (c := UInt8.ofNat k) (by rw [e]; exact hk) b _ a (Nat.le_refl _)
  rwa [e] at this

set_option maxHeartbeats 4000000 in
set_option maxRecDepth 100000 in
theorem walk_UtfJoins (A0 : Option Addr) (c0 : Nat) (a0 : List UInt8) (A1 : Option Addr) (c1 : Nat) (a1 : List UInt8) (a2 : UInt8) (W : World) (hT : Tabs W) (h0 : RdB W A0 c0 a0) (h1 : RdB W A1 c1 a1) :
    Calls Tryd.prog 6 #[.slice A0 a0.length c0, .slice A1 a1.length c1, .int .u8 a2.toNat] W fun e w' => e = .returned (.bool true) ∧ Below W.heap.size W w' := by
  obtain ⟨ib, hib, hzb0, hzb1, hzb2⟩ := info_parts info_byteU
  obtain ⟨ir, hir, hzr0, hzr1, hzr2⟩ := info_parts info_rune
  have HC0 : Hid (Calls Tryd.prog 10 #[.slice A0 a0.length c0, .int .i64 150] W fun e w' => e = .returned (.slice A0 (a0.take 150).length c0) ∧ W = w') := cut_any W A0 c0 a0 h0 150 (by decide)
  have HC1 : Hid (Calls Tryd.prog 10 #[.slice A1 a1.length c1, .int .i64 150] W fun e w' => e = .returned (.slice A1 (a1.take 150).length c1) ∧ W = w') := cut_any W A1 c1 a1 h1 150 (by decide)
  have cutR : ∀ (A : Option Addr) (c : Nat) (l : List UInt8), RdB W A c l → RdB W A c (l.take 150) := fun A c l h => by
    by_cases hl : 150 ≤ l.length
    · exact h.take 150 hl
    · rw [List.take_of_length_le (by omega)]; exact h
  have HA := Lib.hid (cutR A0 c0 a0 h0)
  have HBr := Lib.hid (cutR A1 c1 a1 h1)
  have hla : (a0.take 150).length ≤ 150 := by rw [List.length_take]; omega
  have hlb : (a1.take 150).length ≤ 150 := by rw [List.length_take]; omega
  obtain ⟨a, ha⟩ : ∃ a, a0.take 150 = a := ⟨_, rfl⟩
  obtain ⟨b, hb⟩ : ∃ b, a1.take 150 = b := ⟨_, rfl⟩
  rw [ha] at HC0 HA hla
  rw [hb] at HC1 HBr hlb
  clear ha hb cutR h0 h1
  have hand := and127 a2.toNat a2.toNat_lt
  have hk : a2.toNat % 128 < 128 := Nat.mod_lt _ (by decide)
  have hw32 : wrap32 ((a2.toNat % 128 : Nat) : Int) = ((a2.toNat % 128 : Nat) : Int) := by unfold wrap32; omega
  have HT := Lib.hid hT
  have HJ := Lib.hid (dec_joined a b (a2.toNat % 128) hk)
  have hdla := dec_len _ a (Nat.le_refl _)
  have hdlb := dec_len _ b (Nat.le_refl _)
  have HRA := Lib.hid HA.out.1
  generalize a0.length = n0 at *
  generalize a1.length = n1 at *
  generalize a2.toNat % 128 = k at *
  generalize a2.toNat = k2 at *
  have hm0 := made_new W W 5 1 (Below.refl _ _)
  have hb0 : Below W.heap.size W (W.alloc (.cells #[] 5)) := (Below.refl _ _).alloc (Nat.le_refl _) _
  have HM0 := Lib.hid hm0
  have HB0 := Lib.hid hb0
  have HR0 := Lib.hid (HRA.out.keep hb0)
  have hdle : decide ((decU a).length ≤ a.length) = true := decide_eq_true hdla
  obtain ⟨da, hda⟩ : ∃ da, (decU a).length = da := ⟨_, rfl⟩
  obtain ⟨db, hdb⟩ : ∃ db, (decU b).length = db := ⟨_, rfl⟩
  obtain ⟨na, hna⟩ : ∃ na, a.length = na := ⟨_, rfl⟩
  obtain ⟨nb, hnb⟩ : ∃ nb, b.length = nb := ⟨_, rfl⟩
  rw [hna] at HC0 HR0 hla hdla hdle
  rw [hnb] at HC1 hlb hdlb
  rw [hda] at hdla hdle
  rw [hdb] at hdlb
  have HDA := Lib.hid hda
  have HDB := Lib.hid hdb
  have HNA := Lib.hid hna
  have HNB := Lib.hid hnb
  clear hm0 hb0 hT hda hdb hna hnb
  go_enter Tryd.func6, Tryd.ntmps6
  go_wp2_with (first
    | (go_at_call 10; with_reducible refine HC0.out.mono ?_; rintro e w' ⟨rfl, rfl⟩; clear HC0)
    | (go_at_call 10; with_reducible refine HC1.out.mono ?_; rintro e w' ⟨rfl, rfl⟩)
    | (at_builtin
       refine append_made W _ rfl (.tmp 15) (.tmp 16) _ rfl 5 ib _ 1 1 Tryd.underlying23 hib hzb0 hzb1 hzb2 rfl (by omega) _ _ _ rfl HM0.out A0 na c0 _ rfl HR0.out (by simp only [maxLen]; omega) (by omega) HB0.out ?_
       intro v1 w1 hown1 hb1 hg1
       rw [Nat.zero_add, List.nil_append] at hown1
       have HO1 := Lib.hid (owns_alloc hown1 (.cells #[.int .u8 (k : Int)] 5))
       have hb2 : Below W.heap.size W (w1.alloc (.cells #[.int .u8 (k : Int)] 5)) := hb1.alloc hb1.size _
       have HB2 := Lib.hid hb2
       have HRD1 := Lib.hid (rd_one_b w1 (k : Int))
       clear hown1 hb1 hg1 hb2)
    | (at_builtin
       refine append_made W _ rfl (.tmp 17) (.tmp 19) _ rfl 5 ib _ 1 1 Tryd.underlying23 hib hzb0 hzb1 hzb2 rfl (by omega) _ _ _ rfl HO1.out (some ⟨w1.heap.size, 0, none⟩) 1 1 _ rfl HRD1.out (by simp only [maxLen]; omega) (by omega) HB2.out ?_
       intro v2 w2 hown2 hb3 hg2
       have HO2 := Lib.hid hown2
       have HB3 := Lib.hid hb3
       have hrb := (HBr.out.keep hb3).1
       rw [HNB.out] at hrb
       have HRB := Lib.hid hrb
       clear hown2 hb3 hg2 hrb)
    | (at_builtin
       refine append_made W _ rfl (.tmp 20) (.tmp 21) _ rfl 5 ib _ 1 1 Tryd.underlying23 hib hzb0 hzb1 hzb2 rfl (by omega) _ _ _ rfl HO2.out A1 nb c1 _ rfl HRB.out (by simp only [maxLen]; omega) (by omega) HB3.out ?_
       intro v3 w3 hown3 hb4 hg3
       have hox : OwnB w3 W.heap.size v3 (a ++ UInt8.ofNat k :: b) := by
         unfold OwnB
         rw [← row_b, List.flatMap_append, List.flatMap_cons, List.length_append, List.length_cons, HNA.out, HNB.out, show na + (nb + 1) = na + 1 + nb by omega, ← List.append_assoc]
         have e : enc_b (UInt8.ofNat k) = [.int .u8 (k : Int)] := by unfold enc_b; rw [ofNat_nat (by omega)]
         rw [e]
         exact hown3
       obtain ⟨A3, c3, e3, hr3⟩ := hox.rd
       have hl3 : (a ++ UInt8.ofNat k :: b).length = na + 1 + nb := by rw [List.length_append, List.length_cons, HNA.out, HNB.out]; omega
       rw [hl3] at e3
       subst e3
       have HR3 := Lib.hid hr3
       have HB4 := Lib.hid hb4
       have hm4 := made_new w3 w3 21 1 (Below.refl _ _)
       have hb5 : Below w3.heap.size w3 (w3.alloc (.cells #[] 21)) := (Below.refl _ _).alloc (Nat.le_refl _) _
       have HM4 := Lib.hid hm4
       have HB5 := Lib.hid hb5
       have hbt := hb4.trans (hb5.mono hb4.size)
       have hd := decode_any (w3.alloc (.cells #[] 21)) A0 c0 a (HA.out.keep hbt) (by rw [HNA.out]; omega) (HT.out.keep hbt)
       rw [HNA.out] at hd
       have HD1 := Lib.hid hd
       clear hown3 hb4 hg3 hox hr3 hl3 hm4 hb5 hbt hd)
    | (go_at_call 15
       with_reducible refine HD1.out.mono ?_
       rintro e w5 ⟨v5, rfl, ho5, hb6⟩
       obtain ⟨A5, c5, e5, hr5⟩ := ho5.rd
       rw [HDA.out] at e5
       subst e5
       have hr5' := hr5.1
       rw [HDA.out] at hr5'
       have HR5 := Lib.hid hr5'
       have HM5 := Lib.hid (owns_keep HM4.out hb6)
       have HB6 := Lib.hid (HB5.out.trans (hb6.mono HB5.out.size))
       clear ho5 hb6 hr5 hr5' HD1)
    | (at_builtin
       refine append_made w3 _ rfl (.tmp 23) (.tmp 25) _ rfl 21 ir _ 1 4 Tryd.underlying26 hir hzr0 hzr1 hzr2 rfl (by omega) _ _ _ rfl HM5.out A5 da c5 _ rfl HR5.out (by simp only [maxLen]; omega) (by omega) HB6.out ?_
       intro v6 w6 hown6 hb7 hg6
       rw [Nat.zero_add, List.nil_append] at hown6
       have HO6 := Lib.hid (owns_alloc hown6 (.cells #[.int .i32 (k : Int)] 21))
       have HB7 := Lib.hid (hb7.alloc hb7.size (.cells #[.int .i32 (k : Int)] 21))
       have HRD6 := Lib.hid (rd_one_r w6 (k : Int))
       clear hown6 hb7 hg6)
    | (at_builtin
       refine append_made w3 _ rfl (.tmp 26) (.tmp 29) _ rfl 21 ir _ 1 4 Tryd.underlying26 hir hzr0 hzr1 hzr2 rfl (by omega) _ _ _ rfl HO6.out (some ⟨w6.heap.size, 0, none⟩) 1 1 _ rfl HRD6.out (by simp only [maxLen]; omega) (by omega) HB7.out ?_
       intro v7 w7 hown7 hb8 hg7
       have HO7 := Lib.hid hown7
       have HB8 := Lib.hid hb8
       have hbt := HB4.out.trans (hb8.mono HB4.out.size)
       have hd := decode_any w7 A1 c1 b (HBr.out.keep hbt) (by rw [HNB.out]; omega) (HT.out.keep hbt)
       rw [HNB.out] at hd
       have HD2 := Lib.hid hd
       clear hown7 hb8 hg7 hbt hd)
    | (go_at_call 15
       with_reducible refine HD2.out.mono ?_
       rintro e w8 ⟨v8, rfl, ho8, hb9⟩
       obtain ⟨A8, c8, e8, hr8⟩ := ho8.rd
       rw [HDB.out] at e8
       subst e8
       have hr8' := hr8.1
       rw [HDB.out] at hr8'
       have HR8 := Lib.hid hr8'
       have HO8 := Lib.hid (owns_keep HO7.out hb9)
       have HB9 := Lib.hid (HB8.out.trans (hb9.mono HB8.out.size))
       clear ho8 hb9 hr8 hr8' HD2)
    | (at_builtin
       refine append_made w3 _ rfl (.tmp 30) (.tmp 32) _ rfl 21 ir _ 1 4 Tryd.underlying26 hir hzr0 hzr1 hzr2 rfl (by omega) _ _ _ rfl HO8.out A8 db c8 _ rfl HR8.out (by simp only [maxLen]; omega) (by omega) HB9.out ?_
       intro v9 w9 hown9 hb10 hg9
       have hox : OwnR w9 w3.heap.size v9 (decU a ++ (k : Int) :: decU b) := by
         unfold OwnR
         rw [List.flatMap_append, List.flatMap_cons, List.length_append, List.length_cons, HDA.out, HDB.out, show da + (db + 1) = da + 1 + db by omega, ← List.append_assoc]
         exact hown9
       obtain ⟨A9, c9, e9, hr9⟩ := hox.rd
       have hl9 : (decU a ++ (k : Int) :: decU b).length = da + 1 + db := by rw [List.length_append, List.length_cons, HDA.out, HDB.out]; omega
       rw [hl9] at e9
       subst e9
       have HR9 := Lib.hid hr9
       have HL9 := Lib.hid hl9
       have HB10 := Lib.hid hb10
       have hbt := HB4.out.trans (hb10.mono HB4.out.size)
       have hl3 : (a ++ UInt8.ofNat k :: b).length = na + 1 + nb := by rw [List.length_append, List.length_cons, HNA.out, HNB.out]; omega
       have hd := decode_any w9 A3 c3 _ (HR3.out.keep hb10) (by rw [hl3]; omega) (HT.out.keep hbt)
       rw [hl3, HJ.out] at hd
       have HD3 := Lib.hid hd
       have HBT := Lib.hid hbt
       clear hown9 hb10 hg9 hox hr9 hl9 hbt hd hl3)
    | (go_at_call 15
       with_reducible refine HD3.out.mono ?_
       rintro e w11 ⟨v11, rfl, ho11, hb11⟩
       obtain ⟨A11, c11, e11, hr11⟩ := ho11.rd
       have hs := same_r w11 A11 A9 c11 c9 _ _ hr11.1 (HR9.out.keep hb11).1 (by rw [HL9.out]; omega)
       rw [HL9.out] at hs e11
       subst e11
       have HS := Lib.hid hs
       have HB11 := Lib.hid (HBT.out.trans (hb11.mono HBT.out.size))
       clear ho11 hb11 hr11 hs HD3)
    | (go_at_call 14
       with_reducible refine HS.out.mono ?_
       rintro e w12 ⟨rfl, hb12⟩
       have HB12 := Lib.hid (HB11.out.trans (hb12.mono HB11.out.size))
       have hd := decode_any w12 A0 c0 a (HA.out.keep HB12.out) (by rw [HNA.out]; omega) (HT.out.keep HB12.out)
       rw [HNA.out] at hd
       have HD4 := Lib.hid hd
       clear hb12 hd)
    | (go_at_call 15
       with_reducible refine HD4.out.mono ?_
       rintro e w13 ⟨v13, rfl, ho13, hb13⟩
       obtain ⟨A13, c13, e13, _⟩ := ho13.rd
       rw [HDA.out] at e13
       subst e13
       have HB13 := Lib.hid (HB12.out.trans (hb13.mono HB12.out.size))
       have HK := Lib.hid (known_any w13 (HT.out.keep HB13.out))
       clear ho13 hb13)
    | (go_at_call 9
       with_reducible refine HK.out.mono ?_
       rintro e w14 ⟨rfl, hb14⟩
       have HB14 := Lib.hid (HB13.out.trans (hb14.mono HB13.out.size))
       clear hb14))
  go_ret
  exact ⟨rfl, HB14.out⟩
end Go.Proofs.YtpdbbpmkdkjppaaDoor
