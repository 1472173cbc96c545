/- TagRight, walked. -/
import Derived.Test.YtmlaaonmofgidaaRightAll
import Derived.Test.YtmlaaonmofgidaaArgInts
import Derived.Test.YtmlaaonmofgidaaArgRows
import Derived.LoopN
import Derived.Deep.CutBlock
import Derived.Deep.DeepCutAuto
namespace Go.Proofs.Ytmlaaonmofgidaa
open Go.RowKit

def OpensR (x : List UInt8) (n : Nat) : Prop := (n = 1 ∧ ∃ y, x = 60 :: 97 :: y) ∨ (n = 2 ∧ ∃ y, x = 60 :: 47 :: 97 :: y)
theorem OpensR.facts {x : List UInt8} {n : Nat} (h : OpensR x n) : (x.drop 0).head? = some 60 ∧ fromT x 0 = n ∧ x[n]? = some 97 ∧ n < x.length := by
  rcases h with ⟨rfl, y, rfl⟩ | ⟨rfl, y, rfl⟩
  · refine ⟨rfl, ?_, rfl, by simp⟩
    unfold fromT endsAt startsL Lib.occAt
    rw [if_neg]
    show ¬ (60 == 60 && (47 == 97 && List.isPrefixOf [] y)) = true
    simp
  · refine ⟨rfl, ?_, rfl, by simp⟩
    unfold fromT endsAt startsL Lib.occAt
    rw [if_pos]
    show (60 == 60 && (47 == 47 && List.isPrefixOf [] (97 :: y))) = true
    simp
theorem read_opensR {x : List UInt8} {n : Nat} (h : OpensR x n) : readT x 0 = match restT x (nameL x n) [] false with
    | none => (noTg, (x.length : Int), false)
    | some (al, sf, m) => (if endsAt x 0 = true then ⟨3, lowL (pieceL x n (nameL x n)), [], false⟩ else ⟨2, lowL (pieceL x n (nameL x n)), al, sf⟩, (m : Int), true) := by
  obtain ⟨h1, h2, h3, h4⟩ := h.facts
  unfold readT
  rw [if_neg (by omega), if_pos (by rw [show ((0 : Int).toNat) = 0 from rfl]; exact h1), show ((0 : Int).toNat) = 0 from rfl]
  unfold tagT
  rw [h2, h3, if_pos (by decide)]
  rfl
theorem tag_namelen {a : List UInt8} (ht : (readT a 0).2.2 = true) : (readT a 0).1.name.length ≤ a.length := by
  obtain ⟨_, h2, al, sf, m, h3, h4⟩ := tag_parts ht
  have e : (readT a 0).1.name = lowL (pieceL a (fromT a 0) (nameL a (fromT a 0))) := by rw [h4]; simp only; split <;> rfl
  rw [e, lowL_length]
  unfold pieceL
  rw [List.length_take, List.length_drop]
  omega
theorem tag_not {a : List UInt8} {n : Nat} (h : OpensR a n) (ht : (readT a 0).2.2 = false) : readT a 0 = (noTg, (a.length : Int), false) := by
  rw [read_opensR h] at ht ⊢
  cases hr : restT a (nameL a n) [] false with
  | none => rfl
  | some r => rw [hr] at ht; cases ht
/-- What has been written so far. -/
structure Written (x : ByteArray) (n m : Nat) : Prop where
  opens : OpensR (B x) n
  size : x.size ≤ m
theorem appB (a b : ByteArray) : B (a ++ b) = B a ++ B b := by
  unfold B
  simp only [ByteArray.data_append, Array.toList_append]
theorem Written.app {x z : ByteArray} {n m : Nat} (h : Written x n m) (hz : z.size ≤ 40) : Written (x ++ z) n (m + 40) := by
  refine ⟨?_, by rw [ByteArray.size_append]; have := h.size; omega⟩
  rw [appB]
  rcases h.opens with ⟨h1, y, h2⟩ | ⟨h1, y, h2⟩
  · exact .inl ⟨h1, y ++ B z, by rw [h2]; rfl⟩
  · exact .inr ⟨h1, y ++ B z, by rw [h2]; rfl⟩
def nOfR (b : Bool) : Nat := cond b 2 1
theorem written_a : Written ⟨#[60, 97]⟩ (nOfR false) (3 + 40 * 0) := ⟨.inl ⟨rfl, [], rfl⟩, by decide⟩
theorem written_b : Written ⟨#[60, 47, 97]⟩ (nOfR true) (3 + 40 * 0) := ⟨.inr ⟨rfl, [], rfl⟩, by decide⟩
theorem BtakeR (x : ByteArray) (n : Nat) : B (x.extract 0 n) = (B x).take n := by
  rw [B_piece, List.drop_zero, Nat.sub_zero]
theorem vart_tok {w : World} {b : Nat} (h : Blk w b 37 #[.int .i64 0, .string ⟨#[]⟩, .slice none 0 0, .bool false, .string ⟨#[]⟩] (0, 0)) : w.cell? ⟨b, 0, none⟩ = some (.int .i64 0) ∧ w.cell? ⟨b, 1, none⟩ = some (.string ⟨#[]⟩) ∧ w.cell? ⟨b, 2, none⟩ = some (.slice none 0 0) ∧ w.cell? ⟨b, 3, none⟩ = some (.bool false) ∧ w.cell? ⟨b, 4, none⟩ = some (.string ⟨#[]⟩) ∧
    (w.frozen? ⟨b, 0, none⟩ = false ∧ w.frozen? ⟨b, 1, none⟩ = false ∧ w.frozen? ⟨b, 2, none⟩ = false ∧ w.frozen? ⟨b, 3, none⟩ = false ∧ w.frozen? ⟨b, 4, none⟩ = false) :=
  ⟨h.cell 0, h.cell 1, h.cell 2, h.cell 3, h.cell 4, h.frozen 0 (.inr (Nat.zero_le _)), h.frozen 1 (.inr (Nat.zero_le _)), h.frozen 2 (.inr (Nat.zero_le _)), h.frozen 3 (.inr (Nat.zero_le _)), h.frozen 4 (.inr (Nat.zero_le _))⟩
theorem rda_row {w : World} {base : Nat} {A : Option Addr} {n c : Nat} {l : List At} (h : RowA w base (.slice A n c) l) : RdA w A n l := by
  obtain ⟨A', c', e, hr⟩ := h.read
  injection e with e1 e2 e3
  rw [e1, e2]; exact hr
theorem set5_belowR {w w1 : World} {b : Nat} (h : Below w.heap.size w w1) (hb : w.heap.size ≤ b) (u0 u1 u2 u3 u4 : Value) : Below w.heap.size w (((((w1.setCell ⟨b, 0, none⟩ u0).setCell ⟨b, 1, none⟩ u1).setCell ⟨b, 2, none⟩ u2).setCell ⟨b, 3, none⟩ u3).setCell ⟨b, 4, none⟩ u4) :=
  ((((h.setCell hb _).setCell hb _).setCell hb _).setCell hb _).setCell hb _
theorem set5_tok {w : World} {b : Nat} {z0 z1 z2 z3 z4 : Value} {v : Value} {l : List At} (h : Blk w b 37 #[z0, z1, z2, z3, z4] (0, 0)) (hr : RowA w 0 v l) (u0 u1 u2 u3 u4 : Value) :
    Blk (((((w.setCell ⟨b, 0, none⟩ u0).setCell ⟨b, 1, none⟩ u1).setCell ⟨b, 2, none⟩ u2).setCell ⟨b, 3, none⟩ u3).setCell ⟨b, 4, none⟩ u4) b 37 #[u0, u1, u2, u3, u4] (0, 0) ∧
    RowA (((((w.setCell ⟨b, 0, none⟩ u0).setCell ⟨b, 1, none⟩ u1).setCell ⟨b, 2, none⟩ u2).setCell ⟨b, 3, none⟩ u3).setCell ⟨b, 4, none⟩ u4) 0 v l := by
  have h0 : Blk (w.setCell ⟨b, 0, none⟩ u0) b 37 #[u0, z1, z2, z3, z4] (0, 0) := h.set 0 u0
  have h1 : Blk ((w.setCell ⟨b, 0, none⟩ u0).setCell ⟨b, 1, none⟩ u1) b 37 #[u0, u1, z2, z3, z4] (0, 0) := h0.set 1 u1
  have h2 : Blk (((w.setCell ⟨b, 0, none⟩ u0).setCell ⟨b, 1, none⟩ u1).setCell ⟨b, 2, none⟩ u2) b 37 #[u0, u1, u2, z3, z4] (0, 0) := h1.set 2 u2
  have h3 : Blk ((((w.setCell ⟨b, 0, none⟩ u0).setCell ⟨b, 1, none⟩ u1).setCell ⟨b, 2, none⟩ u2).setCell ⟨b, 3, none⟩ u3) b 37 #[u0, u1, u2, u3, z4] (0, 0) := h2.set 3 u3
  exact ⟨h3.set 4 u4, ((((hr.set h tok_ne 0 u0).set h0 tok_ne 1 u1).set h1 tok_ne 2 u2).set h2 tok_ne 3 u3).set h3 tok_ne 4 u4⟩
/-- What is read of a text. -/
def ReadTo (w : World) (kd : Int) (nm : ByteArray) (al : List At) (sf : Bool) (n : Int) (ok : Bool) (e : Ending) (w' : World) : Prop := ∃ A c, e = .returned (.tuple #[.agg #[.int .i64 kd, .string nm, .slice A al.length c, .bool sf, .string ⟨#[]⟩], .int .i64 n, .bool ok]) ∧ RowA w' 0 (.slice A al.length c) al ∧ Below w.heap.size w w'

set_option maxHeartbeats 8000000 in
set_option maxRecDepth 100000 in
theorem walk_TagRight (A : Option Addr) (c : Nat) (l : List Int) (fo : Bool) (a2 : ByteArray) (w2 : a2.size ≤ maxLen) (w : World) (hL : Lax w) (hr : Rd w A l.length 1 (l.flatMap enc_int)) (_hlc : l.length ≤ c) (_hcm : c ≤ maxLen) :
    Calls Try.prog 8 #[.slice A l.length c, .bool fo, .string a2] w fun e w' => e = .returned (.bool true) ∧ Below w.heap.size w w' := by
  unfold maxLen at w2
  have hm := headB_le a2 30
  have HH := Lib.hid (fun w => head_any a2 30 w (by omega) (by omega))
  rw [show (30 : Int).toNat = 30 from rfl] at HH
  generalize headB a2 30 = m at *
  have HR := Lib.hid hr
  have HL := Lib.hid hL
  clear hr hL w2
  go_enter Try.func8, Try.ntmps8
  cases fo
  all_goals
    go_upto_block 0 with (fail)
    go_cut [7] (fun s7 wx => ∃ x : ByteArray, s7 = .string x ∧ Hid (Written x (nOfR _) 803) ∧ Below w.heap.size w wx)
    case first =>
        go_wp2_with fail
        go_loopw [7, 8] (fun xv iv wr => ∃ (j : Nat) (x : ByteArray), j ≤ l.length ∧ j ≤ 20 ∧ Hid (Written x (nOfR _) (3 + 40 * j)) ∧ xv = .string x ∧ iv = .int .i64 j ∧ Below w.heap.size w wr) (fun _ iv _ => l.length - (intOf iv).toNat)
        case atStart => exact ⟨0, _, Nat.zero_le _, by omega, (by first | exact written_a | exact written_b), rfl, rfl, Below.refl _ _⟩
        case round =>
          obtain ⟨j, x, hj, hj20, HX, rfl, rfl, hb⟩ := hrel
          have HB := Lib.hid hb
          clear hb
          by_cases hlt : j < l.length ∧ j < 20
          · obtain ⟨hlt, h20⟩ := hlt
            have d0 : decide ((j : Int) < (l.length : Int)) = true := decide_eq_true (by omega)
            have d1 : decide ((j : Int) < 20) = true := decide_eq_true (by omega)
            obtain ⟨y, hy⟩ : ∃ y, l[j]? = some y := ⟨_, List.getElem?_eq_getElem hlt⟩
            obtain ⟨a1, rfl, hc1⟩ := (HR.out.keep HB.out).2.2 (by omega)
            have k1 := hc1 j _ (by have := row_at encOk_int l j 0 y _ hy rfl; simpa using this)
            have s1 : IntKind.i64.wrap ((j : Int) + 1) = (j : Int) + 1 := IntWalk.i64_in _ (by omega)
            clear hc1 hy
            go_wp2_with fail
            refine (tagpiece_any y _).mono ?_
            rintro e w2 ⟨z, rfl, hz, b2⟩
            have HB2 := Lib.hid (below_then HB.out HB.out.size b2)
            have hsum : x.size + z.size ≤ 9223372036854775807 := by have := HX.out.size; omega
            have HX2 := Lib.hid (HX.out.app hz)
            clear b2
            go_wp2_with fail
            exact ⟨⟨j + 1, x ++ z, by omega, by omega, HX2, rfl, by go_num, HB2.out⟩, by simp [intOf]; omega⟩
          · have hcase : (decide ((j : Int) < (l.length : Int)) = false ∧ ¬ j < l.length) ∨ (decide ((j : Int) < (l.length : Int)) = true ∧ decide ((j : Int) < 20) = false ∧ j < l.length ∧ ¬ j < 20) := by
              by_cases h1 : j < l.length
              · exact .inr ⟨decide_eq_true (by omega), decide_eq_false (by omega), h1, by omega⟩
              · exact .inl ⟨decide_eq_false (by omega), h1⟩
            clear hlt
            rcases hcase with ⟨d0, m0⟩ | ⟨d0, d1, m0, m1⟩
            all_goals
              go_wp2_with fail
              go_meet
              exact ⟨x, rfl, ⟨HX.out.opens, by have := HX.out.size; omega⟩, HB.out⟩
    case rest =>
      obtain ⟨x, rfl, HX, hb⟩ := hcut
      have HB := Lib.hid hb
      clear hb
      have hxs := HX.out.size
      have hrd := tread_any x wc (by omega) 0 (HL.out.below HB.out)
      have hln := readT_len (B x) 0
      rw [← size_B] at hln
      by_cases ht : (readT (B x) 0).2.2 = true
      · obtain ⟨n, hn⟩ := tag_ends ht
        obtain ⟨hn2, hnl, h62⟩ := tag_end ht hn
        have hloc := fun m' : List UInt8 => tag_same (n := n) (a := B x) (b := (B x).take n ++ m') ⟨hnl, by rw [List.length_append, List.length_take]; omega, by rw [List.take_append_of_le_length (by rw [List.length_take]; omega), List.take_take, Nat.min_self]⟩ ht hn
        have hRT := fun w A c h => right_any x w A c ht h (by omega) (by have := tag_namelen ht; rw [← size_B] at this; omega)
        have hKK := fun A1 A2 c1 c2 w h1 h2 => ptoken_keep (readT (B x) 0).1 A1 A2 c1 c2 w h1 h2 (by omega)
        rw [← size_B] at hnl
        generalize readT (B x) 0 = r at *
        obtain ⟨⟨kd, nm, al, sf⟩, n', ok⟩ := r
        simp only at hn ht
        subst hn ht
        unfold tkV at hRT hKK
        simp only at hRT hKK
        have HSV : Hid (∀ b : ByteArray, readT (B b) 0 = (⟨kd, nm, al, sf⟩, (n : Int), true) → ∀ W, b.size ≤ 65536 → Below w.heap.size w W → Calls Try.prog 16 #[.string b, .int .i64 0] W (ReadTo W kd (S nm) al sf (n : Int) true)) := fun b hb W hs hW => by
          have h := tread_any b W hs 0 (HL.out.below hW)
          rw [hb] at h
          exact h.mono fun e w' ⟨A, c, he, _, ⟨_, hr⟩, hb⟩ => ⟨A, c, he, hr, hb⟩
        have HRD : Hid (Calls Try.prog 16 #[.string x, .int .i64 0] wc (ReadTo wc kd (S nm) al sf (n : Int) true)) := hrd.mono fun e w' ⟨A, c, he, _, ⟨_, hr⟩, hb⟩ => ⟨A, c, he, hr, hb⟩
        have HRT := Lib.hid hRT
        have HKK := Lib.hid hKK
        have HLOC := Lib.hid hloc
        clear hrd hRT hKK hloc
        have hlt1 : n - 1 < x.size := by omega
        have d5 : ((x[n - 1].toNat : Int) != 62) = false := by
          have hat := B_at x (n - 1) hlt1
          rw [h62] at hat
          rw [← Option.some.inj hat]; rfl
        have g1 : decide ((n : Int) < 3) = false := decide_eq_false (by omega)
        have g2 : decide ((n : Int) > (x.size : Int)) = false := decide_eq_false (by omega)
        have sw : IntKind.i64.wrap ((n : Int) - 1) = (n : Int) - 1 := IntWalk.i64_in _ (by omega)
        have s10 : ((n : Int) - 1).toNat = n - 1 := by omega
        have s11 : (0 : Int) ≤ (n : Int) - 1 := by omega
        have s12 : (n : Int) - 1 < (x.size : Int) := by omega
        clear h62
        go_wp2_with fail
        refine HRD.out.mono ?_
        rintro e w1 ⟨A1, c1, rfl, hrd, b1⟩
        have hba := below_tok w1 #[.int .i64 kd, .string (S nm), .slice A1 al.length c1, .bool sf, .string ⟨#[]⟩]
        have hA := Blk.new w1 37 #[.int .i64 kd, .string (S nm), .slice A1 al.length c1, .bool sf, .string ⟨#[]⟩] (0, 0)
        have hB2 := below_then HB.out HB.out.size (below_both b1 hba)
        have hR2 := (rda_row hrd).keep hba
        obtain ⟨w2, hw2⟩ : ∃ w2, w2 = w1.alloc (.cells #[.int .i64 kd, .string (S nm), .slice A1 al.length c1, .bool sf, .string ⟨#[]⟩] 37) := ⟨_, rfl⟩
        have HW2 := Lib.hid hw2.symm
        rw [← hw2] at hA hB2 hR2
        have HA := Lib.hid hA
        have HB2 := Lib.hid hB2
        have HR2 := Lib.hid hR2
        have p0 := HA.out.cell 0
        have p1 := HA.out.cell 1
        have p2 := HA.out.cell 2
        have p3 := HA.out.cell 3
        have p4 := HA.out.cell 4
        clear b1 hba hA hB2 hR2 hrd
        rw [hw2] at p0 p1 p2 p3 p4
        clear hw2
        go_wp2_with fail
        rw [HW2.out]
        clear p0 p1 p2 p3 p4
        refine (HRT.out _ _ _ HR2.out).mono ?_
        rintro e w4 ⟨rfl, b4⟩
        have hks : ∀ W, Below w4.heap.size w4 W → (W.cell? ⟨w1.heap.size, 0, none⟩ = some (.int .i64 kd) ∧ W.cell? ⟨w1.heap.size, 1, none⟩ = some (.string (S nm)) ∧ W.cell? ⟨w1.heap.size, 2, none⟩ = some (.slice A1 al.length c1) ∧ W.cell? ⟨w1.heap.size, 3, none⟩ = some (.bool sf) ∧ W.cell? ⟨w1.heap.size, 4, none⟩ = some (.string ⟨#[]⟩)) := fun W hW => by
          have h := (HA.out.keep b4).keep hW
          exact ⟨h.cell 0, h.cell 1, h.cell 2, h.cell 3, h.cell 4⟩
        have KS := Lib.hid hks
        have HBC := Lib.hid (below_then HB2.out HB2.out.size b4)
        have HR4 := Lib.hid (HR2.out.keep b4)
        clear hks b4
        have hex := size_extract_le x 0 n
        have hbs : (x.extract 0 n ++ m).size ≤ 65536 := by rw [ByteArray.size_append]; omega
        have hrd2 := (fun W hW => HSV.out (x.extract 0 n ++ m) (by rw [appB, BtakeR]; exact HLOC.out (B m)) W hbs hW)
        have q1 : (x.extract 0 n).size + m.size ≤ 9223372036854775807 := by omega
        have q2 : ¬ (9223372036854775807 < (x.extract 0 n).size + m.size) := by omega
        obtain ⟨p, hp⟩ : ∃ p, x.extract 0 n = p := ⟨_, rfl⟩
        rw [hp] at q1 q2 hrd2
        have HRD2 := Lib.hid hrd2
        clear hrd2 hex hbs
        have t1 : ((n : Int) == (n : Int)) = true := by simp
        have HZN := Lib.hid (Blk.new w4 37 #[.int .i64 0, .string ⟨#[]⟩, .slice none 0 0, .bool false, .string ⟨#[]⟩] (0, 0))
        have HDA := Lib.hid (made_alloc (Below.refl w4.heap.size w4) (.cells #[.int .i64 0, .string ⟨#[]⟩, .slice none 0 0, .bool false, .string ⟨#[]⟩] 37)).drew
        have HRDA := Lib.hid (HRD2.out (w4.alloc (.cells #[.int .i64 0, .string ⟨#[]⟩, .slice none 0 0, .bool false, .string ⟨#[]⟩] 37)).drew (below_then HBC.out HBC.out.size HDA.out))
        have HZD := Lib.hid (show Blk (w4.alloc (.cells #[.int .i64 0, .string ⟨#[]⟩, .slice none 0 0, .bool false, .string ⟨#[]⟩] 37)).drew w4.heap.size 37 #[.int .i64 0, .string ⟨#[]⟩, .slice none 0 0, .bool false, .string ⟨#[]⟩] (0, 0) from HZN.out)
        have HRDB := Lib.hid (HRD2.out w4.drew (below_then HBC.out HBC.out.size (made_drew w4)))
        clear HRD2
        go_wp2_with fail
        go_region_held3 (fun _ => True)
          (exact trivial)
          (first
            | (go_at_call 11
               refine (HH.out _).mono ?_
               rintro e w' ⟨rfl, rfl⟩)
            | (go_at_call 16
               first
                 | (with_reducible refine HRDB.out.mono ?_
                    rintro e w5 ⟨A5, c5, rfl, hr5, b5⟩
                    have HW := Lib.hid (below_then (made_drew w4) (made_drew w4).size b5)
                    have HR5 := Lib.hid hr5
                    clear b5 hr5)
                 | (with_reducible refine HRDA.out.mono ?_
                    rintro e w5 ⟨A5, c5, rfl, hr5, b5⟩
                    have HW := Lib.hid (below_then HDA.out HDA.out.size b5)
                    have HR5 := Lib.hid hr5
                    have HZ5 := Lib.hid (HZD.out.keep b5)
                    obtain ⟨z0, z1, z2, z3, z4, f0, f1, f2, f3, f4⟩ := vart_tok (HZD.out.keep b5)
                    clear b5 hr5)))
        all_goals
          first
            | (have hz := z0
               clear hz
               have hb6 := set5_belowR HW.out (Nat.le_refl _) (.int .i64 kd) (.string (S nm)) (.slice A5 al.length c5) (.bool sf) (.string ⟨#[]⟩)
               obtain ⟨hq, hr6⟩ := set5_tok HZ5.out HR5.out (.int .i64 kd) (.string (S nm)) (.slice A5 al.length c5) (.bool sf) (.string ⟨#[]⟩)
               obtain ⟨p0, p1, p2, p3, p4⟩ := KS.out _ hb6
               have q0 := hq.cell 0
               have q1 := hq.cell 1
               have q2 := hq.cell 2
               have q3 := hq.cell 3
               have q4 := hq.cell 4
               have HB6 := Lib.hid (below_then HBC.out HBC.out.size hb6)
               have HR6 := Lib.hid (rda_row hr6)
               have HR7 := Lib.hid (HR4.out.keep hb6)
               clear hb6 hq hr6
               go_wp2_with fail
               refine (HKK.out _ _ _ _ _ HR7.out HR6.out).mono ?_
               rintro e w7 ⟨rfl, b7⟩
               have HB7 := Lib.hid (below_then HB6.out HB6.out.size b7)
               clear b7
               go_wp2_with fail
               refine (tagknown_any _ (HL.out.below HB7.out)).mono ?_
               rintro e w8 ⟨rfl, b8⟩
               have HB8 := Lib.hid (below_then HB7.out HB7.out.size b8)
               clear b8
               go_wp2_with fail
               go_ret
               exact ⟨rfl, HB8.out⟩)
            | (have hb6 := made_alloc HW.out (.cells #[.int .i64 kd, .string (S nm), .slice A5 al.length c5, .bool sf, .string ⟨#[]⟩] 37)
               have hq := Blk.new w5 37 #[.int .i64 kd, .string (S nm), .slice A5 al.length c5, .bool sf, .string ⟨#[]⟩] (0, 0)
               obtain ⟨p0, p1, p2, p3, p4⟩ := KS.out _ hb6
               have q0 := hq.cell 0
               have q1 := hq.cell 1
               have q2 := hq.cell 2
               have q3 := hq.cell 3
               have q4 := hq.cell 4
               have HB6 := Lib.hid (below_then HBC.out HBC.out.size hb6)
               have HR6 := Lib.hid ((rda_row HR5.out).keep (below_tok w5 #[.int .i64 kd, .string (S nm), .slice A5 al.length c5, .bool sf, .string ⟨#[]⟩]))
               have HR7 := Lib.hid (HR4.out.keep hb6)
               clear hb6 hq
               go_wp2_with fail
               refine (HKK.out _ _ _ _ _ HR7.out HR6.out).mono ?_
               rintro e w7 ⟨rfl, b7⟩
               have HB7 := Lib.hid (below_then HB6.out HB6.out.size b7)
               clear b7
               go_wp2_with fail
               refine (tagknown_any _ (HL.out.below HB7.out)).mono ?_
               rintro e w8 ⟨rfl, b8⟩
               have HB8 := Lib.hid (below_then HB7.out HB7.out.size b8)
               clear b8
               go_wp2_with fail
               go_ret
               exact ⟨rfl, HB8.out⟩)
      · have hf : (readT (B x) 0).2.2 = false := by simpa using ht
        rw [tag_not HX.out.opens hf, ← size_B] at hrd
        have HRD : Hid (Calls Try.prog 16 #[.string x, .int .i64 0] wc (ReadTo wc 0 ⟨#[]⟩ [] false (x.size : Int) false)) := hrd.mono fun e w' ⟨A, c, he, _, ⟨_, hr⟩, hb⟩ => ⟨A, c, he, hr, hb⟩
        have t1 : ((x.size : Int) == (x.size : Int)) = true := beq_self_eq_true _
        clear hrd hf ht hln
        go_wp2_with fail
        refine HRD.out.mono ?_
        rintro e w1 ⟨A1, c1, rfl, _, b1⟩
        have hba := below_tok w1 #[.int .i64 0, .string ⟨#[]⟩, .slice A1 ([] : List At).length c1, .bool false, .string ⟨#[]⟩]
        have HB1 := Lib.hid (below_then HB.out HB.out.size (below_both b1 hba))
        have hA1 := Blk.new w1 37 #[.int .i64 0, .string ⟨#[]⟩, .slice A1 ([] : List At).length c1, .bool false, .string ⟨#[]⟩] (0, 0)
        have k0 := hA1.cell 0
        clear b1 hba hA1
        go_wp2_with fail
        refine (tagknown_any _ (HL.out.below HB1.out)).mono ?_
        rintro e w5 ⟨rfl, b5⟩
        have HB5 := Lib.hid (below_then HB1.out HB1.out.size b5)
        clear b5
        go_wp2_with fail
        go_ret
        exact ⟨rfl, HB5.out⟩
end Go.Proofs.Ytmlaaonmofgidaa
