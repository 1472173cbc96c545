/- The statements of chapter 11: what they share. -/
import Derived.Test.YtmlaaonmofgidaaTagRR
import Derived.Test.YtmlaaonmofgidaaLit
import Derived.Test.YtmlaaonmofgidaaTabR
namespace Go.Proofs.Ytmlaaonmofgidaa
open Go.RowKit

def knownS : ByteArray := ⟨#[60, 65, 32, 98, 61, 49, 32, 66, 61, 50, 32, 99, 47, 62, 120]⟩
theorem known_tag : (readT (B knownS) 0).1.kind = 2 ∧ (readT (B knownS) 0).1.name = [97] ∧ (readT (B knownS) 0).1.attrs.length = 2 ∧ (readT (B knownS) 0).1.self = true ∧ (readT (B knownS) 0).2.1 = 14 ∧ (readT (B knownS) 0).2.2 = true := by decide +kernel
theorem known_lost : (readT (B ⟨#[60, 112]⟩) 0).2.2 = false := by decide +kernel
theorem ptoken_keep (t : Tg) (A1 A2 : Option Addr) (c1 c2 : Nat) (w : World) (h1 : RdA w A1 t.attrs.length t.attrs) (h2 : RdA w A2 t.attrs.length t.attrs) (hb : t.attrs.length ≤ 9223372036854775807) :
    Calls Try.prog 18 #[tkV t A1 c1, tkV t A2 c2] w fun e w' => e = .returned (.bool true) ∧ Below w.heap.size w w' := by
  obtain ⟨kd, nm, al, sf⟩ := t
  simp only at h1 h2 hb
  unfold tkV
  simp only
  generalize S nm = n at *
  have hb0 := (below_tok w #[.int .i64 kd, .string n, .slice A1 al.length c1, .bool sf, .string ⟨#[]⟩]).alloc (by simp) (.cells #[.int .i64 kd, .string n, .slice A2 al.length c2, .bool sf, .string ⟨#[]⟩] 37)
  have hk := attrs_keep ((w.alloc (.cells #[.int .i64 kd, .string n, .slice A1 al.length c1, .bool sf, .string ⟨#[]⟩] 37)).alloc (.cells #[.int .i64 kd, .string n, .slice A2 al.length c2, .bool sf, .string ⟨#[]⟩] 37)) A1 A2 al.length al.length c1 c2 al al (h1.keep hb0) (h2.keep hb0) (by omega)
  rw [decide_eq_true rfl] at hk
  have hA := (Blk.new w 37 #[.int .i64 kd, .string n, .slice A1 al.length c1, .bool sf, .string ⟨#[]⟩] (0, 0)).alloc (.cells #[.int .i64 kd, .string n, .slice A2 al.length c2, .bool sf, .string ⟨#[]⟩] 37)
  have hB := Blk.new (w.alloc (.cells #[.int .i64 kd, .string n, .slice A1 al.length c1, .bool sf, .string ⟨#[]⟩] 37)) 37 #[.int .i64 kd, .string n, .slice A2 al.length c2, .bool sf, .string ⟨#[]⟩] (0, 0)
  rw [show (w.alloc (.cells #[.int .i64 kd, .string n, .slice A1 al.length c1, .bool sf, .string ⟨#[]⟩] 37)).heap.size = w.heap.size + 1 by simp] at hB
  have HK := Lib.hid hk
  have HA : Hid (TokAt _ w.heap.size kd n (.slice A1 al.length c1) sf) := hA
  have HBB : Hid (TokAt _ (w.heap.size + 1) kd n (.slice A2 al.length c2) sf) := hB
  have HB0 := Lib.hid hb0
  have t1 : (kd == kd) = true := beq_self_eq_true _
  have t2 : (n.toList == n.toList) = true := beq_self_eq_true _
  have t3 : (sf == sf) = true := beq_self_eq_true _
  clear h1 h2 hb0 hk hA hB
  go_enter Try.func18, Try.ntmps18
  go_wp2_with fail
  refine HK.out.mono ?_
  rintro e w1 ⟨rfl, b1⟩
  obtain ⟨c0, c1', c2', c3, c4, _⟩ := (HA.out.keep b1).cells
  obtain ⟨d0, d1, d2, d3, d4, _⟩ := (HBB.out.keep b1).cells
  have HB1 := Lib.hid (below_then HB0.out HB0.out.size b1)
  clear b1
  go_wp2_with fail
  go_ret
  exact ⟨rfl, HB1.out⟩
theorem restF_len (l : List UInt8) : ∀ (f k : Nat) (al : List At) (sf : Bool) (al2 : List At) (sf2 : Bool) (n : Nat), restF f l k al sf = some (al2, sf2, n) → al2.length ≤ al.length + f
  | 0, k, al, sf, al2, sf2, n, h => by unfold restF at h; cases h
  | f + 1, k, al, sf, al2, sf2, n, h => by
    unfold restF at h
    cases hc : l[skipL l k]? with
    | none => rw [hc] at h; cases h
    | some c =>
      rw [hc] at h
      simp only at h
      split at h
      · cases h; omega
      · split at h
        · split at h
          · cases h; omega
          · have := restF_len l f _ _ _ _ _ _ h; omega
        · have ha := addA_len al (attrT l (skipL l k)).1
          split at h
          · cases h
          · split at h
            · cases h; omega
            · have := restF_len l f _ _ _ _ _ _ h; omega
theorem readT_len (l : List UInt8) (k : Int) : (readT l k).1.attrs.length ≤ l.length + 1 := by
  unfold readT
  split
  · exact Nat.zero_le _
  · split
    · unfold tagT
      split
      · split
        · exact Nat.zero_le _
        · rename_i h
          unfold restT at h
          have := restF_len l _ _ _ _ _ _ _ h
          simp only [List.length_nil] at this
          split
          · exact Nat.zero_le _
          · simp only; omega
      · exact Nat.zero_le _
    · exact Nat.zero_le _

set_option maxHeartbeats 4000000 in
set_option maxRecDepth 100000 in
theorem tagsame_any (s : ByteArray) (at_ : Int) (w : World) (hs : s.size ≤ 65536) (hw : Lax w) :
    Calls Try.prog 9 #[.string s, .int .i64 at_] w fun e w' => e = .returned (.bool true) ∧ Below w.heap.size w w' := by
  have H1 := Lib.hid (tread_any s w hs at_ hw)
  have H2 := Lib.hid (fun w => rtread_any s w hs at_)
  have hln := readT_len (B s) at_
  rw [← size_B] at hln
  clear hw
  generalize readT (B s) at_ = r at *
  obtain ⟨t, n, ok⟩ := r
  simp only at hln
  have hK := Lib.hid (fun A1 A2 c1 c2 w h1 h2 => ptoken_keep t A1 A2 c1 c2 w h1 h2 (by omega))
  obtain ⟨kd, nm, al, sf⟩ := t
  have t1 : (n == n) = true := beq_self_eq_true _
  have t2 : (ok == ok) = true := beq_self_eq_true _
  unfold tkV at hK
  simp only at hK hln
  clear hs hln
  go_enter Try.func9, Try.ntmps9
  go_wp2_with fail
  refine H1.out.mono ?_
  rintro e w1 ⟨A1, c1, rfl, hrd, _, b1⟩
  have hrd : RdA w1 A1 al.length al := hrd
  have hba := below_tok w1 #[.int .i64 kd, .string (S nm), .slice A1 al.length c1, .bool sf, .string ⟨#[]⟩]
  have hA1 := Blk.new w1 37 #[.int .i64 kd, .string (S nm), .slice A1 al.length c1, .bool sf, .string ⟨#[]⟩] (0, 0)
  have HA1 := Lib.hid hA1
  have HR1 := Lib.hid (hrd.keep hba)
  have HB1 := Lib.hid (below_then b1 b1.size hba)
  clear b1 hba hA1 hrd
  unfold tkV
  simp only
  go_wp2_with fail
  refine (H2.out _).mono ?_
  rintro e w2 ⟨A2, c2, rfl, hrd, _, b2⟩
  have hrd : RdA w2 A2 al.length al := hrd
  have hba := below_tok w2 #[.int .i64 kd, .string (S nm), .slice A2 al.length c2, .bool sf, .string ⟨#[]⟩]
  have hb2 := below_both b2 hba
  have HA2 : Hid (TokAt _ w1.heap.size kd (S nm) (.slice A1 al.length c1) sf) := HA1.out.keep hb2
  have HR2 := Lib.hid (HR1.out.keep hb2)
  have HRB := Lib.hid (hrd.keep hba)
  have HBB := Lib.hid (Blk.new w2 37 #[.int .i64 kd, .string (S nm), .slice A2 al.length c2, .bool sf, .string ⟨#[]⟩] (0, 0))
  have HB2 := Lib.hid (below_then HB1.out HB1.out.size hb2)
  obtain ⟨c0, c1', c2', c3, c4, _⟩ := HA2.out.cells
  have HA3 : Hid (TokAt w2 w1.heap.size kd (S nm) (.slice A1 al.length c1) sf) := HA1.out.keep b2
  obtain ⟨y0, y1, y2, y3, y4, _⟩ := HA3.out.cells
  have hlt := Blk.lt HA3.out
  clear hb2 hba b2 hrd
  unfold tkV
  simp only
  go_wp2_with fail
  refine (hK.out _ _ _ _ _ HR2.out HRB.out).mono ?_
  rintro e w3 ⟨rfl, b3⟩
  have HB3 := Lib.hid (below_then HB2.out HB2.out.size b3)
  clear b3
  go_wp2_with fail
  go_ret
  exact ⟨rfl, HB3.out⟩

set_option maxHeartbeats 4000000 in
set_option maxRecDepth 100000 in
theorem tagknown_any (w : World) (hw : Lax w) :
    Calls Try.prog 10 #[] w fun e w' => e = .returned (.bool true) ∧ Below w.heap.size w w' := by
  have H1 := tread_any knownS w (by decide) 0 hw
  obtain ⟨k1, k2, k3, k4, k5, k6⟩ := known_tag
  generalize readT (B knownS) 0 = r at *
  obtain ⟨⟨kd, nm, al, sf⟩, n, ok⟩ := r
  simp only at k1 k2 k3 k4 k5 k6
  subst k1 k2 k4 k5 k6
  have H2 := fun W hW => tread_any ⟨#[60, 112]⟩ W (by decide) 0 hW
  have k7 := known_lost
  generalize readT (B ⟨#[60, 112]⟩) 0 = q at *
  obtain ⟨⟨kd2, nm2, al2, sf2⟩, n2, ok2⟩ := q
  simp only at k7
  subst k7
  have HW := Lib.hid hw
  have H1 := Lib.hid H1
  have H2 := Lib.hid H2
  have K3 := Lib.hid k3
  have t1 : ((S [97]).toList == [97]) = true := by rw [toList_S]; rfl
  clear hw k3
  unfold knownS at H1
  go_enter Try.func10, Try.ntmps10
  go_wp2_with fail
  refine H1.out.mono ?_
  rintro e w1 ⟨A1, c1, rfl, _, _, b1⟩
  have hba := below_tok w1 #[.int .i64 2, .string (S [97]), .slice A1 2 c1, .bool true, .string ⟨#[]⟩]
  have HA1 := Lib.hid (Blk.new w1 37 #[.int .i64 2, .string (S [97]), .slice A1 2 c1, .bool true, .string ⟨#[]⟩] (0, 0))
  have HB1 := Lib.hid (below_then b1 b1.size hba)
  clear b1 hba
  unfold tkV
  simp only [K3.out]
  go_wp2_with fail
  refine (H2.out _ (HW.out.below HB1.out)).mono ?_
  rintro e w2 ⟨A2, c2, rfl, _, _, b2⟩
  have hba := below_tok w2 #[.int .i64 kd2, .string (S nm2), .slice A2 al2.length c2, .bool sf2, .string ⟨#[]⟩]
  have hb2 := below_both b2 hba
  have HA2 : Hid (TokAt _ w1.heap.size 2 (S [97]) (.slice A1 2 c1) true) := HA1.out.keep hb2
  have HA3 : Hid (TokAt w2 w1.heap.size 2 (S [97]) (.slice A1 2 c1) true) := HA1.out.keep b2
  have HB2 := Lib.hid (below_then HB1.out HB1.out.size hb2)
  obtain ⟨c0, c1', c2', c3, c4, _⟩ := HA2.out.cells
  obtain ⟨y0, y1, y2, y3, y4, _⟩ := HA3.out.cells
  have hlt := Blk.lt HA3.out
  clear hb2 hba b2
  unfold tkV
  simp only
  go_wp2_with fail
  go_ret
  exact ⟨rfl, HB2.out⟩

def piecesT : List ByteArray := [⟨#[32]⟩, ⟨#[97]⟩, ⟨#[66, 61]⟩, ⟨#[61]⟩, ⟨#[34]⟩, ⟨#[39]⟩, ⟨#[47]⟩, ⟨#[62]⟩, ⟨#[120, 61, 49]⟩, ⟨#[10]⟩, ⟨#[38, 108, 116, 59]⟩, ⟨#[97, 61, 39, 113, 39]⟩, ⟨#[61, 34, 118, 32, 119, 34]⟩, ⟨#[60]⟩, ⟨#[47, 62]⟩, ⟨#[195, 169]⟩, ⟨#[65]⟩, ⟨#[38, 97, 109, 112]⟩]
def arrP (l : List ByteArray) : Array Value := (strs l).toArray
theorem arrP_at (l : List ByteArray) {j : Nat} {x : ByteArray} (hx : l[j]? = some x) : (arrP l)[j]? = some (.string x) := by
  unfold arrP strs
  rw [List.getElem?_toArray, List.getElem?_map, hx]
  rfl
theorem piecesT_at (i : Nat) (hi : i < 18) : ∃ x, piecesT[i]? = some x ∧ x.size ≤ 40 :=
  ⟨_, List.getElem?_eq_getElem (show i < piecesT.length from hi), (by decide : ∀ x ∈ piecesT, x.size ≤ 40) _ (List.getElem_mem _)⟩
def PieceT (w : World) (e : Ending) (w' : World) : Prop := ∃ p : ByteArray, e = .returned (.string p) ∧ p.size ≤ 40 ∧ Below w.heap.size w w'
theorem tmod_natT (k m : Nat) : (k : Int).tmod (m : Int) = ((k % m : Nat) : Int) := by
  rw [Int.tmod_eq_emod_of_nonneg (by omega)]; omega
set_option maxHeartbeats 2000000 in
set_option maxRecDepth 100000 in
theorem tagpiece_any (n : Int) (w : World) :
    Calls Try.prog 12 #[.int .i64 n] w (PieceT w) := by
  have hb := withinI_bd n 0 1048576 (by omega)
  have HW0 := Lib.hid (bwithin_any n 0 1048576 · (by omega) (by omega) (by omega))
  generalize withinI n 0 1048576 = i at *
  obtain ⟨k, rfl⟩ : ∃ k : Nat, i = (k : Int) := ⟨i.toNat, by omega⟩
  have m18 : (k : Int).tmod 18 = ((k % 18 : Nat) : Int) := tmod_natT k 18
  have hlt : k % 18 < 18 := Nat.mod_lt _ (by decide)
  obtain ⟨x, hx, hxz⟩ := piecesT_at (k % 18) hlt
  have hc : (w.alloc (.cells (arrP piecesT) 9)).cell? ⟨w.heap.size, k % 18, none⟩ = some (.string x) := ((Blk.new w 9 (arrP piecesT) (0, 0)).cell _).trans (arrP_at piecesT hx)
  have HB := Lib.hid ((Below.refl w.heap.size w).alloc (Nat.le_refl _) (.cells (arrP piecesT) 9))
  have HX := Lib.hid hxz
  clear hx hxz hb
  generalize k % 18 = j at *
  go_enter Try.func12, Try.ntmps12
  go_wp2_with fail
  refine (HW0.out _).mono ?_
  rintro e w2 ⟨rfl, rfl⟩
  go_wp2_with (refine wpList_buildAt (o := ⟨_, .buildSlice _ _ _, _, _, _, _⟩) rfl _ 9 _ _ rfl (arrP piecesT) 1 (.string ⟨#[]⟩) Try.underlying22 (by kernel_rfl) (by decide) (by decide) (by kernel_rfl) ?_)
  go_ret
  exact ⟨x, rfl, HX.out, HB.out⟩
end Go.Proofs.Ytmlaaonmofgidaa
