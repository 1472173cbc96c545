/- TagLost, walked. -/
import Derived.Test.YtmlaaonmofgidaaTagSame
import Derived.Test.YtmlaaonmofgidaaTagLostL
import Derived.Test.YtmlaaonmofgidaaArgInts
import Derived.Test.YtmlaaonmofgidaaArgRows
namespace Go.Proofs.Ytmlaaonmofgidaa
open Go.RowKit

/-- What has been written so far: a tag's beginning, and no sign that ends it. -/
structure Loose (x : ByteArray) (n m : Nat) : Prop where
  opens : Opens (B x) n
  clean : cleanT (B x)
  size : x.size ≤ m
theorem Loose.app {x : ByteArray} {n m : Nat} {c : UInt8} (h : Loose x n m) (hc : c ≠ 62 ∧ c ≠ 34 ∧ c ≠ 39) : Loose (x ++ S [c]) n (m + 1) := by
  have e : B (x ++ S [c]) = B x ++ [c] := by
    unfold B S
    simp only [ByteArray.data_append, Array.toList_append]
  refine ⟨?_, ?_, ?_⟩
  · rw [e]
    rcases h.opens with ⟨h1, y, h2⟩ | ⟨h1, y, h2⟩
    · exact .inl ⟨h1, y ++ [c], by rw [h2]; rfl⟩
    · exact .inr ⟨h1, y ++ [c], by rw [h2]; rfl⟩
  · rw [e]
    intro a ha
    rcases List.mem_append.1 ha with ha | ha
    · exact h.clean a ha
    · rw [List.mem_singleton] at ha; rw [ha]; exact hc
  · rw [ByteArray.size_append]; have := h.size; show x.size + 1 ≤ m + 1; omega
def nOf (b : Bool) : Nat := cond b 2 1
theorem loose_a : Loose ⟨#[60, 97]⟩ (nOf false) 3 := ⟨.inl ⟨rfl, [], rfl⟩, by unfold cleanT; decide, by decide⟩
theorem loose_b : Loose ⟨#[60, 47, 97]⟩ (nOf true) 3 := ⟨.inr ⟨rfl, [], rfl⟩, by unfold cleanT; decide, by decide⟩

set_option maxHeartbeats 8000000 in
set_option maxRecDepth 100000 in
theorem walk_TagLost (A : Option Addr) (c : Nat) (l : List Int) (fo : Bool) (w : World) (hL : Lax w) (hr : Rd w A l.length 1 (l.flatMap enc_int)) (_hlc : l.length ≤ c) (_hcm : c ≤ maxLen) :
    Calls Try.prog 7 #[.slice A l.length c, .bool fo] w fun e w' => e = .returned (.bool true) ∧ Below w.heap.size w w' := by
  have HR := Lib.hid hr
  have HL := Lib.hid hL
  clear hr hL
  cases fo
  · go_enter Try.func7, Try.ntmps7
    go_wp2_with fail
    go_loopw [5, 6] (fun xv iv wr => ∃ (j : Nat) (x : ByteArray), j ≤ l.length ∧ j ≤ 15 ∧ Hid (Loose x (nOf false) (3 + 40 * j)) ∧ xv = .string x ∧ iv = .int .i64 j ∧ Below w.heap.size w wr) (fun _ iv _ => l.length - (intOf iv).toNat)
    case atStart => exact ⟨0, _, Nat.zero_le _, by omega, (by first | exact loose_a | exact loose_b), rfl, rfl, Below.refl _ _⟩
    case round =>
      obtain ⟨j, x, hj, hj20, HX, rfl, rfl, hb⟩ := hrel
      obtain ⟨wo, rfl⟩ : ∃ wo : World, wo = wr := ⟨_, rfl⟩
      have HB := Lib.hid hb
      clear hb
      by_cases hlt : j < l.length ∧ j < 15
      · obtain ⟨hlt, h20⟩ := hlt
        have d0 : decide ((j : Int) < (l.length : Int)) = true := decide_eq_true (by omega)
        have d1 : decide ((j : Int) < 15) = true := decide_eq_true (by omega)
        obtain ⟨y, hy⟩ : ∃ y, l[j]? = some y := ⟨_, List.getElem?_eq_getElem hlt⟩
        obtain ⟨a1, rfl, hc1⟩ := (HR.out.keep HB.out).2.2 (by omega)
        have k1 := hc1 j _ (by have := row_at encOk_int l j 0 y _ hy rfl; simpa using this)
        have s1 : IntKind.i64.wrap ((j : Int) + 1) = (j : Int) + 1 := IntWalk.i64_in _ (by omega)
        clear hc1 hy
        go_wp2_with fail
        refine (tagpiece_any y _).mono ?_
        rintro e w2 ⟨z, rfl, hz, b2⟩
        have HB2 := Lib.hid (below_then HB.out HB.out.size b2)
        clear b2
        go_wp2_with fail
        go_loopw [5, 8] (fun xv iv wr => ∃ (k : Nat) (x : ByteArray), k ≤ z.size ∧ Hid (Loose x (nOf false) (3 + 40 * j + k)) ∧ xv = .string x ∧ iv = .int .i64 k ∧ wr = w2) (fun _ iv _ => z.size - (intOf iv).toNat)
        case atStart => exact ⟨0, x, Nat.zero_le _, HX.out, rfl, rfl, rfl⟩
        case round =>
          obtain ⟨k, x, hk, HX, rfl, rfl, rfl⟩ := hrel
          by_cases hkl : k < z.size
          · have s2 : IntKind.i64.wrap ((k : Int) + 1) = (k : Int) + 1 := IntWalk.i64_in _ (by omega)
            by_cases hc : z[k] ≠ 62 ∧ z[k] ≠ 34 ∧ z[k] ≠ 39
            · have n1 : ((z[k].toNat : Int) != 62) = true := by
                show (!((z[k].toNat : Int) == ((62 : Nat) : Int))) = true
                rw [byte_ne (n := 62) (by decide) hc.1]; rfl
              have n2 : ((z[k].toNat : Int) != 34) = true := by
                show (!((z[k].toNat : Int) == ((34 : Nat) : Int))) = true
                rw [byte_ne (n := 34) (by decide) hc.2.1]; rfl
              have n3 : ((z[k].toNat : Int) != 39) = true := by
                show (!((z[k].toNat : Int) == ((39 : Nat) : Int))) = true
                rw [byte_ne (n := 39) (by decide) hc.2.2]; rfl
              have hone := piece_one z k hkl
              have hes : (z.extract k (k + 1)).size = 1 := by rw [hone]; rfl
              have hxs := HX.out.size
              have hsum : x.size + (z.extract k (k + 1)).size ≤ 9223372036854775807 := by rw [hes]; omega
              have HX2 : Hid (Loose (x ++ z.extract k (k + 1)) (nOf false) (3 + 40 * j + (k + 1))) := by
                have := HX.out.app hc
                rw [← hone] at this
                exact this
              clear hc hone hes hxs
              go_wp2_with fail
              exact ⟨⟨k + 1, _, by omega, HX2, rfl, by go_num, trivial⟩, by simp [intOf]; omega⟩
            · have hcase : ((z[k].toNat : Int) != 62) = false ∨ (((z[k].toNat : Int) != 62) = true ∧ ((z[k].toNat : Int) != 34) = false) ∨ (((z[k].toNat : Int) != 62) = true ∧ ((z[k].toNat : Int) != 34) = true ∧ ((z[k].toNat : Int) != 39) = false) := by
                by_cases h1 : z[k] = 62
                · rw [h1]; exact .inl rfl
                · have n1 : ((z[k].toNat : Int) != 62) = true := by
                    show (!((z[k].toNat : Int) == ((62 : Nat) : Int))) = true
                    rw [byte_ne (n := 62) (by decide) h1]; rfl
                  by_cases h2 : z[k] = 34
                  · exact .inr (.inl ⟨n1, by rw [h2]; rfl⟩)
                  · have n2 : ((z[k].toNat : Int) != 34) = true := by
                      show (!((z[k].toNat : Int) == ((34 : Nat) : Int))) = true
                      rw [byte_ne (n := 34) (by decide) h2]; rfl
                    by_cases h3 : z[k] = 39
                    · exact .inr (.inr ⟨n1, n2, by rw [h3]; rfl⟩)
                    · exact absurd ⟨h1, h2, h3⟩ hc
              have HX2 : Hid (Loose x (nOf false) (3 + 40 * j + (k + 1))) := ⟨HX.out.opens, HX.out.clean, by have := HX.out.size; omega⟩
              clear hc
              rcases hcase with n1 | ⟨n1, n2⟩ | ⟨n1, n2, n3⟩
              all_goals
                go_wp2_with fail
                exact ⟨⟨k + 1, _, by omega, HX2, rfl, by go_num, trivial⟩, by simp [intOf]; omega⟩
          · have HX2 : Hid (Loose x (nOf false) (3 + 40 * (j + 1))) := ⟨HX.out.opens, HX.out.clean, by have := HX.out.size; omega⟩
            go_wp2_with fail
            exact ⟨⟨j + 1, _, by omega, by omega, HX2, rfl, by go_num, HB2.out⟩, by simp [intOf]; omega⟩
      · have hcase : (decide ((j : Int) < (l.length : Int)) = false ∧ ¬ j < l.length) ∨ (decide ((j : Int) < (l.length : Int)) = true ∧ decide ((j : Int) < 15) = false ∧ j < l.length ∧ ¬ j < 15) := by
          by_cases h1 : j < l.length
          · exact .inr ⟨decide_eq_true (by omega), decide_eq_false (by omega), h1, by omega⟩
          · exact .inl ⟨decide_eq_false (by omega), h1⟩
        have hxs : x.size ≤ 603 := by have := HX.out.size; omega
        have H1 := fun w' (h : Below w.heap.size w w') => tread_any x w' (by omega) 0 (HL.out.below h)
        rw [read_lost HX.out.opens HX.out.clean] at H1
        have ee : B (x ++ ⟨#[32, 62]⟩) = B x ++ [32, 62] := by
          unfold B
          simp only [ByteArray.data_append, Array.toList_append]
        have H2 := fun w' (h : Below w.heap.size w w') => tread_any (x ++ ⟨#[32, 62]⟩) w' (by rw [ByteArray.size_append]; show x.size + 2 ≤ _; omega) 0 (HL.out.below h)
        obtain ⟨t, ht, htn⟩ := read_ended HX.out.opens HX.out.clean
        rw [ee, ht] at H2
        rw [← size_B] at H1 H2
        obtain ⟨kd, nm, al, sf⟩ := t
        simp only at htn
        have hsum : x.size + (⟨#[32, 62]⟩ : ByteArray).size ≤ 9223372036854775807 := by show x.size + 2 ≤ _; omega
        have e1 : ((S nm).toList != []) = true := by rw [toList_S, bne_iff_ne]; exact htn
        have e2 : (!(S nm).toList.isEmpty) = true := by
          rw [toList_S]
          cases nm with
          | nil => exact absurd rfl htn
          | cons a b => rfl
        have e3 : (((x.size + 2 : Nat) : Int) == (x.size : Int) + 2) = true := by rw [beq_iff_eq]; omega
        have e4 : ((x.size : Int) == (x.size : Int)) = true := beq_self_eq_true _
        rw [show ((x.size + 2 : Nat) : Int) = (x.size : Int) + 2 by omega] at H2
        have HH1 := Lib.hid H1
        have HH2 := Lib.hid H2
        clear hlt H1 H2 ee ht htn
        rcases hcase with ⟨d0, m0⟩ | ⟨d0, d1, m0, m1⟩
        all_goals
          go_wp2_with fail
          refine (HH1.out _ HB.out).mono ?_
          rintro e w1 ⟨A1, c1, rfl, _, _, b1⟩
          have hba := below_tok w1 #[.int .i64 0, .string (S []), .slice A1 0 c1, .bool false, .string ⟨#[]⟩]
          have HA1 := Lib.hid (Blk.new w1 37 #[.int .i64 0, .string (S []), .slice A1 0 c1, .bool false, .string ⟨#[]⟩] (0, 0))
          have HB1 := Lib.hid (below_then HB.out HB.out.size (below_both b1 hba))
          clear b1 hba
          unfold tkV noTg
          simp only [List.length_nil]
          go_wp2_with fail
          refine (HH2.out _ HB1.out).mono ?_
          rintro e w2 ⟨A2, c2, rfl, _, _, b2⟩
          have hba := below_tok w2 #[.int .i64 kd, .string (S nm), .slice A2 al.length c2, .bool sf, .string ⟨#[]⟩]
          have hb2 := below_both b2 hba
          have HA2 : Hid (TokAt _ w1.heap.size 0 (S []) (.slice A1 0 c1) false) := HA1.out.keep hb2
          have HA3 : Hid (TokAt w2 w1.heap.size 0 (S []) (.slice A1 0 c1) false) := HA1.out.keep b2
          have HB2 := Lib.hid (below_then HB1.out HB1.out.size hb2)
          obtain ⟨c0, c1', c2', c3, c4, _⟩ := HA2.out.cells
          obtain ⟨y0, y1, y2, y3, y4, _⟩ := HA3.out.cells
          have hlt := Blk.lt HA3.out
          clear hb2 hba b2
          unfold tkV
          simp only
          go_wp2_with fail
          refine (tagknown_any _ (HL.out.below HB2.out)).mono ?_
          rintro e w6 ⟨rfl, b6⟩
          have HB6 := Lib.hid (below_then HB2.out HB2.out.size b6)
          clear b6
          go_wp2_with fail
          go_ret
          exact ⟨rfl, HB6.out⟩
  · go_enter Try.func7, Try.ntmps7
    go_wp2_with fail
    go_loopw [5, 6] (fun xv iv wr => ∃ (j : Nat) (x : ByteArray), j ≤ l.length ∧ j ≤ 15 ∧ Hid (Loose x (nOf true) (3 + 40 * j)) ∧ xv = .string x ∧ iv = .int .i64 j ∧ Below w.heap.size w wr) (fun _ iv _ => l.length - (intOf iv).toNat)
    case atStart => exact ⟨0, _, Nat.zero_le _, by omega, (by first | exact loose_a | exact loose_b), rfl, rfl, Below.refl _ _⟩
    case round =>
      obtain ⟨j, x, hj, hj20, HX, rfl, rfl, hb⟩ := hrel
      obtain ⟨wo, rfl⟩ : ∃ wo : World, wo = wr := ⟨_, rfl⟩
      have HB := Lib.hid hb
      clear hb
      by_cases hlt : j < l.length ∧ j < 15
      · obtain ⟨hlt, h20⟩ := hlt
        have d0 : decide ((j : Int) < (l.length : Int)) = true := decide_eq_true (by omega)
        have d1 : decide ((j : Int) < 15) = true := decide_eq_true (by omega)
        obtain ⟨y, hy⟩ : ∃ y, l[j]? = some y := ⟨_, List.getElem?_eq_getElem hlt⟩
        obtain ⟨a1, rfl, hc1⟩ := (HR.out.keep HB.out).2.2 (by omega)
        have k1 := hc1 j _ (by have := row_at encOk_int l j 0 y _ hy rfl; simpa using this)
        have s1 : IntKind.i64.wrap ((j : Int) + 1) = (j : Int) + 1 := IntWalk.i64_in _ (by omega)
        clear hc1 hy
        go_wp2_with fail
        refine (tagpiece_any y _).mono ?_
        rintro e w2 ⟨z, rfl, hz, b2⟩
        have HB2 := Lib.hid (below_then HB.out HB.out.size b2)
        clear b2
        go_wp2_with fail
        go_loopw [5, 8] (fun xv iv wr => ∃ (k : Nat) (x : ByteArray), k ≤ z.size ∧ Hid (Loose x (nOf true) (3 + 40 * j + k)) ∧ xv = .string x ∧ iv = .int .i64 k ∧ wr = w2) (fun _ iv _ => z.size - (intOf iv).toNat)
        case atStart => exact ⟨0, x, Nat.zero_le _, HX.out, rfl, rfl, rfl⟩
        case round =>
          obtain ⟨k, x, hk, HX, rfl, rfl, rfl⟩ := hrel
          by_cases hkl : k < z.size
          · have s2 : IntKind.i64.wrap ((k : Int) + 1) = (k : Int) + 1 := IntWalk.i64_in _ (by omega)
            by_cases hc : z[k] ≠ 62 ∧ z[k] ≠ 34 ∧ z[k] ≠ 39
            · have n1 : ((z[k].toNat : Int) != 62) = true := by
                show (!((z[k].toNat : Int) == ((62 : Nat) : Int))) = true
                rw [byte_ne (n := 62) (by decide) hc.1]; rfl
              have n2 : ((z[k].toNat : Int) != 34) = true := by
                show (!((z[k].toNat : Int) == ((34 : Nat) : Int))) = true
                rw [byte_ne (n := 34) (by decide) hc.2.1]; rfl
              have n3 : ((z[k].toNat : Int) != 39) = true := by
                show (!((z[k].toNat : Int) == ((39 : Nat) : Int))) = true
                rw [byte_ne (n := 39) (by decide) hc.2.2]; rfl
              have hone := piece_one z k hkl
              have hes : (z.extract k (k + 1)).size = 1 := by rw [hone]; rfl
              have hxs := HX.out.size
              have hsum : x.size + (z.extract k (k + 1)).size ≤ 9223372036854775807 := by rw [hes]; omega
              have HX2 : Hid (Loose (x ++ z.extract k (k + 1)) (nOf true) (3 + 40 * j + (k + 1))) := by
                have := HX.out.app hc
                rw [← hone] at this
                exact this
              clear hc hone hes hxs
              go_wp2_with fail
              exact ⟨⟨k + 1, _, by omega, HX2, rfl, by go_num, trivial⟩, by simp [intOf]; omega⟩
            · have hcase : ((z[k].toNat : Int) != 62) = false ∨ (((z[k].toNat : Int) != 62) = true ∧ ((z[k].toNat : Int) != 34) = false) ∨ (((z[k].toNat : Int) != 62) = true ∧ ((z[k].toNat : Int) != 34) = true ∧ ((z[k].toNat : Int) != 39) = false) := by
                by_cases h1 : z[k] = 62
                · rw [h1]; exact .inl rfl
                · have n1 : ((z[k].toNat : Int) != 62) = true := by
                    show (!((z[k].toNat : Int) == ((62 : Nat) : Int))) = true
                    rw [byte_ne (n := 62) (by decide) h1]; rfl
                  by_cases h2 : z[k] = 34
                  · exact .inr (.inl ⟨n1, by rw [h2]; rfl⟩)
                  · have n2 : ((z[k].toNat : Int) != 34) = true := by
                      show (!((z[k].toNat : Int) == ((34 : Nat) : Int))) = true
                      rw [byte_ne (n := 34) (by decide) h2]; rfl
                    by_cases h3 : z[k] = 39
                    · exact .inr (.inr ⟨n1, n2, by rw [h3]; rfl⟩)
                    · exact absurd ⟨h1, h2, h3⟩ hc
              have HX2 : Hid (Loose x (nOf true) (3 + 40 * j + (k + 1))) := ⟨HX.out.opens, HX.out.clean, by have := HX.out.size; omega⟩
              clear hc
              rcases hcase with n1 | ⟨n1, n2⟩ | ⟨n1, n2, n3⟩
              all_goals
                go_wp2_with fail
                exact ⟨⟨k + 1, _, by omega, HX2, rfl, by go_num, trivial⟩, by simp [intOf]; omega⟩
          · have HX2 : Hid (Loose x (nOf true) (3 + 40 * (j + 1))) := ⟨HX.out.opens, HX.out.clean, by have := HX.out.size; omega⟩
            go_wp2_with fail
            exact ⟨⟨j + 1, _, by omega, by omega, HX2, rfl, by go_num, HB2.out⟩, by simp [intOf]; omega⟩
      · have hcase : (decide ((j : Int) < (l.length : Int)) = false ∧ ¬ j < l.length) ∨ (decide ((j : Int) < (l.length : Int)) = true ∧ decide ((j : Int) < 15) = false ∧ j < l.length ∧ ¬ j < 15) := by
          by_cases h1 : j < l.length
          · exact .inr ⟨decide_eq_true (by omega), decide_eq_false (by omega), h1, by omega⟩
          · exact .inl ⟨decide_eq_false (by omega), h1⟩
        have hxs : x.size ≤ 603 := by have := HX.out.size; omega
        have H1 := fun w' (h : Below w.heap.size w w') => tread_any x w' (by omega) 0 (HL.out.below h)
        rw [read_lost HX.out.opens HX.out.clean] at H1
        have ee : B (x ++ ⟨#[32, 62]⟩) = B x ++ [32, 62] := by
          unfold B
          simp only [ByteArray.data_append, Array.toList_append]
        have H2 := fun w' (h : Below w.heap.size w w') => tread_any (x ++ ⟨#[32, 62]⟩) w' (by rw [ByteArray.size_append]; show x.size + 2 ≤ _; omega) 0 (HL.out.below h)
        obtain ⟨t, ht, htn⟩ := read_ended HX.out.opens HX.out.clean
        rw [ee, ht] at H2
        rw [← size_B] at H1 H2
        obtain ⟨kd, nm, al, sf⟩ := t
        simp only at htn
        have hsum : x.size + (⟨#[32, 62]⟩ : ByteArray).size ≤ 9223372036854775807 := by show x.size + 2 ≤ _; omega
        have e1 : ((S nm).toList != []) = true := by rw [toList_S, bne_iff_ne]; exact htn
        have e2 : (!(S nm).toList.isEmpty) = true := by
          rw [toList_S]
          cases nm with
          | nil => exact absurd rfl htn
          | cons a b => rfl
        have e3 : (((x.size + 2 : Nat) : Int) == (x.size : Int) + 2) = true := by rw [beq_iff_eq]; omega
        have e4 : ((x.size : Int) == (x.size : Int)) = true := beq_self_eq_true _
        rw [show ((x.size + 2 : Nat) : Int) = (x.size : Int) + 2 by omega] at H2
        have HH1 := Lib.hid H1
        have HH2 := Lib.hid H2
        clear hlt H1 H2 ee ht htn
        rcases hcase with ⟨d0, m0⟩ | ⟨d0, d1, m0, m1⟩
        all_goals
          go_wp2_with fail
          refine (HH1.out _ HB.out).mono ?_
          rintro e w1 ⟨A1, c1, rfl, _, _, b1⟩
          have hba := below_tok w1 #[.int .i64 0, .string (S []), .slice A1 0 c1, .bool false, .string ⟨#[]⟩]
          have HA1 := Lib.hid (Blk.new w1 37 #[.int .i64 0, .string (S []), .slice A1 0 c1, .bool false, .string ⟨#[]⟩] (0, 0))
          have HB1 := Lib.hid (below_then HB.out HB.out.size (below_both b1 hba))
          clear b1 hba
          unfold tkV noTg
          simp only [List.length_nil]
          go_wp2_with fail
          refine (HH2.out _ HB1.out).mono ?_
          rintro e w2 ⟨A2, c2, rfl, _, _, b2⟩
          have hba := below_tok w2 #[.int .i64 kd, .string (S nm), .slice A2 al.length c2, .bool sf, .string ⟨#[]⟩]
          have hb2 := below_both b2 hba
          have HA2 : Hid (TokAt _ w1.heap.size 0 (S []) (.slice A1 0 c1) false) := HA1.out.keep hb2
          have HA3 : Hid (TokAt w2 w1.heap.size 0 (S []) (.slice A1 0 c1) false) := HA1.out.keep b2
          have HB2 := Lib.hid (below_then HB1.out HB1.out.size hb2)
          obtain ⟨c0, c1', c2', c3, c4, _⟩ := HA2.out.cells
          obtain ⟨y0, y1, y2, y3, y4, _⟩ := HA3.out.cells
          have hlt := Blk.lt HA3.out
          clear hb2 hba b2
          unfold tkV
          simp only
          go_wp2_with fail
          refine (tagknown_any _ (HL.out.below HB2.out)).mono ?_
          rintro e w6 ⟨rfl, b6⟩
          have HB6 := Lib.hid (below_then HB2.out HB2.out.size b6)
          clear b6
          go_wp2_with fail
          go_ret
          exact ⟨rfl, HB6.out⟩
end Go.Proofs.Ytmlaaonmofgidaa
