/- TokenJoins, walked. -/
import Derived.Test.YtjghkiphfpeocaaJoin
import Derived.Test.YtjghkiphfpeocaaTokens
import Derived.Test.YtjghkiphfpeocaaTokK
import Derived.Test.YtjghkiphfpeocaaTokFit
import Derived.Test.YtjghkiphfpeocaaArgToks
import Derived.LoopN
import Derived.Deep.CutBlock
import Derived.Deep.DeepCutAuto
namespace Go.Proofs.Ytjghkiphfpeocaa
open Go.RowKit

def SmallT (t : Tk) : Prop := t.tx.size ≤ 60 ∧ t.al.length ≤ 6
theorem sumT_small (l : List Tk) (h : ∀ t ∈ l, SmallT t) : sumT l ≤ 60 * l.length := by
  unfold sumT
  induction l with
  | nil => simp
  | cons a l ih =>
    rw [List.map_cons, List.sum_cons, List.length_cons]
    have h1 := ih (fun t ht => h t (List.mem_cons_of_mem _ ht))
    have h2 := (h a List.mem_cons_self).1
    omega
theorem few_small (t : Tk) : SmallT (fewT t) := ⟨(few_fits t).2.2.2, (few_fits t).2.1⟩
/-- What has been gathered so far. -/
def Gathered (w : World) (base : Nat) (v : Value) (all : ByteArray) (j : Nat) : Prop := ∃ out : List Tq, RowK w base v out ∧ out.length = j ∧ all = textsT (out.map Tq.t) ∧ ∀ t ∈ out.map Tq.t, SmallT t

theorem joinT_al (P : List At → Prop) (l : List Tk) (h : ∀ t ∈ l, P t.al) : ∀ t ∈ joinT l, P t.al := by
  have key : ∀ (l : List Tk) (out : List Tk), (∀ t ∈ out, P t.al) → (∀ t ∈ l, P t.al) → ∀ t ∈ l.foldl joinStep out, P t.al := fun l => by
    induction l with
    | nil => exact fun out ho _ => ho
    | cons a l ih =>
      intro out ho hl
      rw [List.foldl_cons]
      refine ih _ (fun t ht => ?_) (fun t ht => hl t (List.mem_cons_of_mem _ ht))
      have ha := hl a List.mem_cons_self
      unfold joinStep at ht
      split at ht
      · rename_i u hu
        have hmu : u ∈ out := List.mem_of_getLast? hu
        split at ht
        · rcases List.mem_append.1 ht with ht | ht
          · exact ho t ((List.dropLast_sublist out).subset ht)
          · rw [List.mem_singleton] at ht
            rw [ht]; exact ho u hmu
        · rcases List.mem_append.1 ht with ht | ht
          · exact ho t ht
          · rw [List.mem_singleton] at ht
            rw [ht]; exact ha
      · rw [List.mem_singleton] at ht
        rw [ht]; exact ha
  exact key l [] (by simp) h
theorem texts_more (out : List Tq) (m : Tq) (all : ByteArray) (h : all = textsT (out.map Tq.t)) (b : Bool) (hb : (m.t.kd == 4) = b) : (cond b (all ++ m.t.tx) all) = textsT ((out ++ [m]).map Tq.t) := by
  rw [List.map_append, List.map_cons, List.map_nil, textsT_snoc, ← h]
  cases b
  · rw [if_neg (fun e => by rw [e] at hb; exact absurd hb (by decide))]; rfl
  · rw [if_pos (beq_iff_eq.1 hb)]; rfl
theorem small_more (out : List Tq) (m : Tq) (h : ∀ t ∈ out.map Tq.t, SmallT t) (hm : SmallT m.t) : ∀ t ∈ (out ++ [m]).map Tq.t, SmallT t := fun t ht => by
  rw [List.map_append, List.mem_append] at ht
  rcases ht with ht | ht
  · exact h t ht
  · rw [List.map_cons, List.map_nil, List.mem_singleton] at ht
    rw [ht]; exact hm
theorem set5_but (w : World) (b : Nat) (u0 u1 u2 u3 u4 : Value) : But (fun k => k = b) w (((((w.setCell ⟨b, 0, none⟩ u0).setCell ⟨b, 1, none⟩ u1).setCell ⟨b, 2, none⟩ u2).setCell ⟨b, 3, none⟩ u3).setCell ⟨b, 4, none⟩ u4) :=
  (((((But.refl (fun k => k = b) w).setCell _ _ (.inl rfl)).setCell _ _ (.inl rfl)).setCell _ _ (.inl rfl)).setCell _ _ (.inl rfl)).setCell _ _ (.inl rfl)
theorem set5_belowG2 {w w1 : World} {b : Nat} (h : Below w.heap.size w w1) (hb : w.heap.size ≤ b) (u0 u1 u2 u3 u4 : Value) : Below w.heap.size w (((((w1.setCell ⟨b, 0, none⟩ u0).setCell ⟨b, 1, none⟩ u1).setCell ⟨b, 2, none⟩ u2).setCell ⟨b, 3, none⟩ u3).setCell ⟨b, 4, none⟩ u4) := set5_belowG h hb u0 u1 u2 u3 u4
theorem RowK.set5 {w : World} {base b : Nat} {v : Value} {l : List Tq} {z0 z1 z2 z3 z4 : Value} (h : RowK w base v l) (ht : Blk w b 34 #[z0, z1, z2, z3, z4] (0, 0)) (hne : ¬ v.ownBlock = some b) (u0 u1 u2 u3 u4 : Value) :
    RowK (((((w.setCell ⟨b, 0, none⟩ u0).setCell ⟨b, 1, none⟩ u1).setCell ⟨b, 2, none⟩ u2).setCell ⟨b, 3, none⟩ u3).setCell ⟨b, 4, none⟩ u4) base v l :=
  ⟨owns_but h.1 (set5_but w b u0 u1 u2 u3 u4) (fun g hg e => hne (by rw [hg, e])), fun m hm => (set5_tokG ht (h.2 m hm) u0 u1 u2 u3 u4).2⟩

set_option maxHeartbeats 8000000 in
set_option maxRecDepth 100000 in
theorem walk_TokenJoins (A0 : Option Addr) (c0 : Nat) (l : List Tq) (A1 : Option Addr) (c1 : Nat) (bs : List Bool) (w : World) (hr0 : RdK w A0 l.length l) (hk0 : ∀ m ∈ l, m.t.ok) (_h01 : l.length ≤ c0) (_h02 : c0 ≤ maxLen) (hr1 : Rd w A1 bs.length 1 (bs.flatMap enc_bool)) (_h11 : bs.length ≤ c1) (_h12 : c1 ≤ maxLen) :
    Calls Try.prog 5 #[.slice A0 l.length c0, .slice A1 bs.length c1] w fun e w' => e = .returned (.bool true) ∧ Below w.heap.size w w' := by
  obtain ⟨i0, hi0, hz0, hz1, hz2⟩ := info_parts info_tk
  have H0 := Lib.hid hr0
  have HK := Lib.hid hk0
  have H1 := Lib.hid hr1
  clear hr0 hk0 hr1
  go_enter Try.func5, Try.ntmps5
  go_upto_block 0 with (fail)
  go_cut [5, 6] (fun s5 s6 wx => ∃ (out : List Tq) (all : ByteArray), Hid (RowK wx w.heap.size s5 out) ∧ s6 = .string all ∧ Hid (all = textsT (out.map Tq.t) ∧ (∀ t ∈ out.map Tq.t, SmallT t) ∧ out.length ≤ 30) ∧ Hid (Below w.heap.size w wx))
  case first =>
    go_wp2_with fail
    go_loopw [5, 6, 7] (fun v xv iv wr => ∃ (j : Nat) (all : ByteArray), j ≤ l.length ∧ j ≤ 30 ∧ Hid (Gathered wr w.heap.size v all j) ∧ xv = .string all ∧ iv = .int .i64 j ∧ Below w.heap.size w wr) (fun _ _ iv _ => l.length - (intOf iv).toNat)
    case atStart => exact ⟨0, ⟨#[]⟩, Nat.zero_le _, by omega, ⟨[], RowK.nil _ _, rfl, rfl, by simp⟩, rfl, rfl, Below.refl _ _⟩
    case round =>
      obtain ⟨j, all, hj, hj30, HG, rfl, rfl, hb⟩ := hrel
      have HB := Lib.hid hb
      by_cases hlt : j < l.length ∧ j < 30
      · obtain ⟨hlt, h30⟩ := hlt
        have d0 : decide ((j : Int) < (l.length : Int)) = true := decide_eq_true (by omega)
        have d1 : decide ((j : Int) < 30) = true := decide_eq_true (by omega)
        obtain ⟨m, hm⟩ : ∃ m, l[j]? = some m := ⟨_, List.getElem?_eq_getElem hlt⟩
        obtain ⟨a1, rfl, k0, k1, k2, k3, k4⟩ := rdK_at (H0.out.keep hb) hm
        have hmem := List.mem_of_getElem? hm
        have HF := Lib.hid (few_any m.t m.A m.c wr ((H0.out.keep hb).2.2 m hmem) (HK.out m hmem))
        have s1 : IntKind.i64.wrap ((j : Int) + 1) = (j : Int) + 1 := IntWalk.i64_in _ (by omega)
        have HSM := Lib.hid (few_small m.t)
        unfold tkG at HF
        have hflag : (decide ((j : Int) < (bs.length : Int)) = false) ∨ (∃ a2, A1 = some a2 ∧ decide ((j : Int) < (bs.length : Int)) = true ∧ ∃ b, ∀ W, Below w.heap.size w W → W.cell? (a2.add j) = some (.bool b)) := by
          by_cases hbl : j < bs.length
          · obtain ⟨a2, ha2, _⟩ := H1.out.2.2 (by omega)
            obtain ⟨b, hbj⟩ : ∃ b, bs[j]? = some b := ⟨_, List.getElem?_eq_getElem hbl⟩
            refine .inr ⟨a2, ha2, decide_eq_true (by omega), b, fun W hW => ?_⟩
            obtain ⟨a3, ha3, hc3⟩ := (H1.out.keep hW).2.2 (by omega)
            rw [ha2] at ha3
            cases ha3
            have := hc3 j _ (by have := row_at encOk_bool bs j 0 b _ hbj rfl; simpa using this)
            exact this
          · exact .inl (decide_eq_false (by omega))
        generalize fewT m.t = x at *
        clear hm hmem hb
        go_wp2_with fail
        refine HF.out.mono ?_
        rintro e w2 ⟨A2, c2, rfl, hx2, b2⟩
        have b12 := below_then HB.out HB.out.size b2
        have hb3 := below_tokG w2 #[.int .i64 x.kd, .string x.nm, .slice A2 x.al.length c2, .bool x.sf, .string x.tx]
        have h8 := Blk.new w2 34 #[.int .i64 x.kd, .string x.nm, .slice A2 x.al.length c2, .bool x.sf, .string x.tx] (0, 0)
        obtain ⟨w3, hw3⟩ : ∃ w3, w3 = w2.alloc (.cells #[.int .i64 x.kd, .string x.nm, .slice A2 x.al.length c2, .bool x.sf, .string x.tx] 34) := ⟨_, rfl⟩
        have HW3 := Lib.hid hw3.symm
        rw [← hw3] at hb3 h8
        have b13 := below_then b12 b12.size hb3
        have H8 := Lib.hid h8
        have HX3 := Lib.hid ((hx2.le (base' := w.heap.size) HB.out.size).keep hb3)
        have HB3 := Lib.hid b13
        obtain ⟨out, hro, hlo, hall, hsm⟩ := HG.out
        have HR3 := Lib.hid ((hro.keep b2).keep hb3)
        have HLO := Lib.hid hlo
        have HALL := Lib.hid hall
        have HSO := Lib.hid hsm
        have hts := textsT_size (out.map Tq.t)
        have hss := sumT_small _ hsm
        rw [← hall] at hts
        rw [List.length_map] at hss
        obtain ⟨q0, q1, q2, q3, q4, f0, f1, f2, f3, f4⟩ := cells_tokG h8
        have hxs := HSM.out.1
        have hadd : all.size + x.tx.size ≤ 9223372036854775807 := by omega
        unfold tkG
        have HS3 := Lib.hid (show w3.heap.size = w2.heap.size + 1 by rw [← HW3.out]; simp)
        have HBL := Lib.hid (Nat.le_trans HB.out.size b2.size)
        have HNE := Lib.hid (fun e : u5.ownBlock = some w2.heap.size => by
          have := (hro.1.lt _ e).2
          have := b2.size
          omega : ¬ (u5.ownBlock = some w2.heap.size))
        clear b2 b12 hb3 h8 hw3 b13 hro hlo hall hsm hts hss hxs hx2 k0 k1 k2 k3 k4 HG HF
        rcases hflag with d2 | ⟨a2, rfl, d2, b, hbw⟩
        · have d3 : ¬ (j < bs.length) := by have := of_decide_eq_false d2; omega
          go_upto_region 9 with (fail)
          rw [HW3.out]
          obtain ⟨w4, rfl⟩ : ∃ w4, w4 = w3 := ⟨_, rfl⟩
          have HR4 := HR3
          have HX4 := HX3
          have HB4 := HB3
          have H4 := H8
          have HS4 := HS3
          cases hq : x.kd == 4
          all_goals
            have HRA := Lib.hid (HR4.out.keep (below_tokG w4 (enc_tk ⟨x, A2, c2⟩).toArray))
            have HQA := Lib.hid (HX4.out.keep (below_tokG w4 (enc_tk ⟨x, A2, c2⟩).toArray))
            have HBA := Lib.hid (below_then HB4.out HB4.out.size (below_tokG w4 (enc_tk ⟨x, A2, c2⟩).toArray))
            have HHA := Lib.hid (H4.out.keep (below_tokG w4 (enc_tk ⟨x, A2, c2⟩).toArray))
            have hrd := rd_one_tk (m := ⟨x, A2, c2⟩) (Blk.new w4 34 (enc_tk ⟨x, A2, c2⟩).toArray (0, 0))
            have HRD := Lib.hid hrd
            clear hrd
            go_wp2_with (first
              | (at_builtin
                 refine wpList_append_any _ rfl (.tmp 40) (.tmp 42) _ rfl w.heap.size 34 i0 _ 5 72 Try.underlying30 hi0 hz0 hz1 hz2 rfl (by omega) _ _ _ rfl HRA.out.1 (some ⟨w4.heap.size, 0, none⟩) 1 1 _ rfl HRD.out (by simp only [maxLen]; have := HLO.out; omega) (by have := HLO.out; omega) HBA.out.size ?_
                 intro v7 w7 hown7 g7 hat7
                 have HR7 := Lib.hid (HRA.out.grow (m := ⟨x, A2, c2⟩) HQA.out hown7 g7)
                 have HB7 := Lib.hid (made_grown HBA.out g7 (fun k hk => (HRA.out.1.lt k hk).1))
                 have h7 := HHA.out.but (But.of_grown g7 (S := fun k => u5.ownBlock = some k) (fun k hk => hk)) HNE.out
                 obtain ⟨p0, _, _, _, p4, _⟩ := cells_tokG h7
                 clear hown7 g7 hat7 h7))
            obtain ⟨A8, c8, hv8, _, _⟩ := HR7.out.read
            rw [hv8] at HR7 ⊢
            refine ⟨⟨j + 1, _, by omega, by omega, ⟨out ++ [⟨x, A2, c2⟩], HR7.out, by rw [List.length_append]; simp [HLO.out], ?_, ?_⟩, rfl, by go_num, HB7.out⟩, by simp [intOf]; omega⟩
            · exact texts_more out ⟨x, A2, c2⟩ all HALL.out _ hq
            · exact small_more out ⟨x, A2, c2⟩ HSO.out HSM.out
        · have d3 : j < bs.length := by have := of_decide_eq_true d2; omega
          have kb := hbw _ HB3.out
          go_upto_region 7 with (fail)
          rw [HW3.out]
          cases b
          · go_upto_region 9 with (fail)
            obtain ⟨w4, rfl⟩ : ∃ w4, w4 = w3 := ⟨_, rfl⟩
            have HR4 := HR3
            have HX4 := HX3
            have HB4 := HB3
            have H4 := H8
            have HS4 := HS3
            cases hq : x.kd == 4
            all_goals
              have HRA := Lib.hid (HR4.out.keep (below_tokG w4 (enc_tk ⟨x, A2, c2⟩).toArray))
              have HQA := Lib.hid (HX4.out.keep (below_tokG w4 (enc_tk ⟨x, A2, c2⟩).toArray))
              have HBA := Lib.hid (below_then HB4.out HB4.out.size (below_tokG w4 (enc_tk ⟨x, A2, c2⟩).toArray))
              have HHA := Lib.hid (H4.out.keep (below_tokG w4 (enc_tk ⟨x, A2, c2⟩).toArray))
              have hrd := rd_one_tk (m := ⟨x, A2, c2⟩) (Blk.new w4 34 (enc_tk ⟨x, A2, c2⟩).toArray (0, 0))
              have HRD := Lib.hid hrd
              clear hrd
              go_wp2_with (first
                | (at_builtin
                   refine wpList_append_any _ rfl (.tmp 40) (.tmp 42) _ rfl w.heap.size 34 i0 _ 5 72 Try.underlying30 hi0 hz0 hz1 hz2 rfl (by omega) _ _ _ rfl HRA.out.1 (some ⟨w4.heap.size, 0, none⟩) 1 1 _ rfl HRD.out (by simp only [maxLen]; have := HLO.out; omega) (by have := HLO.out; omega) HBA.out.size ?_
                   intro v7 w7 hown7 g7 hat7
                   have HR7 := Lib.hid (HRA.out.grow (m := ⟨x, A2, c2⟩) HQA.out hown7 g7)
                   have HB7 := Lib.hid (made_grown HBA.out g7 (fun k hk => (HRA.out.1.lt k hk).1))
                   have h7 := HHA.out.but (But.of_grown g7 (S := fun k => u5.ownBlock = some k) (fun k hk => hk)) HNE.out
                   obtain ⟨p0, _, _, _, p4, _⟩ := cells_tokG h7
                   clear hown7 g7 hat7 h7))
              obtain ⟨A8, c8, hv8, _, _⟩ := HR7.out.read
              rw [hv8] at HR7 ⊢
              refine ⟨⟨j + 1, _, by omega, by omega, ⟨out ++ [⟨x, A2, c2⟩], HR7.out, by rw [List.length_append]; simp [HLO.out], ?_, ?_⟩, rfl, by go_num, HB7.out⟩, by simp [intOf]; omega⟩
              · exact texts_more out ⟨x, A2, c2⟩ all HALL.out _ hq
              · exact small_more out ⟨x, A2, c2⟩ HSO.out HSM.out
          · go_upto_region 9 with (fail)
            have hz := set5_tokG H8.out (RowA.nil w3 w.heap.size) (.int .i64 4) (.string ⟨#[]⟩) (.slice none 0 0) (.bool false) (.string x.tx)
            have hb5 := set5_belowG2 HB3.out HBL.out (.int .i64 4) (.string ⟨#[]⟩) (.slice none 0 0) (.bool false) (.string x.tx)
            have hr5 := RowK.set5 HR3.out H8.out HNE.out (.int .i64 4) (.string ⟨#[]⟩) (.slice none 0 0) (.bool false) (.string x.tx)
            obtain ⟨w4, hw4⟩ : ∃ w4, w4 = (((((w3.setCell ⟨w2.heap.size, 0, none⟩ (.int .i64 4)).setCell ⟨w2.heap.size, 1, none⟩ (.string ⟨#[]⟩)).setCell ⟨w2.heap.size, 2, none⟩ (.slice none 0 0)).setCell ⟨w2.heap.size, 3, none⟩ (.bool false)).setCell ⟨w2.heap.size, 4, none⟩ (.string x.tx)) := ⟨_, rfl⟩
            rw [← hw4] at hz hb5 hr5 ⊢
            have HR4 := Lib.hid hr5
            have HX4 := Lib.hid hz.2
            have HB4 := Lib.hid hb5
            have H4 := Lib.hid hz.1
            obtain ⟨q0, q1, q2, q3, q4, f0, f1, f2, f3, f4⟩ := cells_tokG hz.1
            clear hz hb5 hr5 hw4 HR3 HX3 HB3 H8
            have HRA := Lib.hid (HR4.out.keep (below_tokG w4 (enc_tk (⟨⟨4, ⟨#[]⟩, [], false, x.tx⟩, none, 0⟩ : Tq)).toArray))
            have HQA := Lib.hid (HX4.out.keep (below_tokG w4 (enc_tk (⟨⟨4, ⟨#[]⟩, [], false, x.tx⟩, none, 0⟩ : Tq)).toArray))
            have HBA := Lib.hid (below_then HB4.out HB4.out.size (below_tokG w4 (enc_tk (⟨⟨4, ⟨#[]⟩, [], false, x.tx⟩, none, 0⟩ : Tq)).toArray))
            have HHA := Lib.hid (H4.out.keep (below_tokG w4 (enc_tk (⟨⟨4, ⟨#[]⟩, [], false, x.tx⟩, none, 0⟩ : Tq)).toArray))
            have hrd := rd_one_tk (m := (⟨⟨4, ⟨#[]⟩, [], false, x.tx⟩, none, 0⟩ : Tq)) (Blk.new w4 34 (enc_tk (⟨⟨4, ⟨#[]⟩, [], false, x.tx⟩, none, 0⟩ : Tq)).toArray (0, 0))
            have HRD := Lib.hid hrd
            clear hrd
            go_wp2_with (first
              | (at_builtin
                 refine wpList_append_any _ rfl (.tmp 40) (.tmp 42) _ rfl w.heap.size 34 i0 _ 5 72 Try.underlying30 hi0 hz0 hz1 hz2 rfl (by omega) _ _ _ rfl HRA.out.1 (some ⟨w4.heap.size, 0, none⟩) 1 1 _ rfl HRD.out (by simp only [maxLen]; have := HLO.out; omega) (by have := HLO.out; omega) HBA.out.size ?_
                 intro v7 w7 hown7 g7 hat7
                 have HR7 := Lib.hid (HRA.out.grow (m := (⟨⟨4, ⟨#[]⟩, [], false, x.tx⟩, none, 0⟩ : Tq)) HQA.out hown7 g7)
                 have HB7 := Lib.hid (made_grown HBA.out g7 (fun k hk => (HRA.out.1.lt k hk).1))
                 have h7 := HHA.out.but (But.of_grown g7 (S := fun k => u5.ownBlock = some k) (fun k hk => hk)) HNE.out
                 obtain ⟨p0, _, _, _, p4, _⟩ := cells_tokG h7
                 clear hown7 g7 hat7 h7))
            obtain ⟨A8, c8, hv8, _, _⟩ := HR7.out.read
            rw [hv8] at HR7 ⊢
            refine ⟨⟨j + 1, _, by omega, by omega, ⟨out ++ [(⟨⟨4, ⟨#[]⟩, [], false, x.tx⟩, none, 0⟩ : Tq)], HR7.out, by rw [List.length_append]; simp [HLO.out], ?_, ?_⟩, rfl, by go_num, HB7.out⟩, by simp [intOf]; omega⟩
            · exact texts_more out (⟨⟨4, ⟨#[]⟩, [], false, x.tx⟩, none, 0⟩ : Tq) all HALL.out true rfl
            · exact small_more out (⟨⟨4, ⟨#[]⟩, [], false, x.tx⟩, none, 0⟩ : Tq) HSO.out ⟨HSM.out.1, Nat.zero_le _⟩
      · have hcase : (decide ((j : Int) < (l.length : Int)) = false ∧ ¬ j < l.length) ∨ (decide ((j : Int) < (l.length : Int)) = true ∧ decide ((j : Int) < 30) = false ∧ j < l.length ∧ ¬ j < 30) := by
          by_cases h1 : j < l.length
          · exact .inr ⟨decide_eq_true (by omega), decide_eq_false (by omega), h1, by omega⟩
          · exact .inl ⟨decide_eq_false (by omega), h1⟩
        obtain ⟨out, hro, hlo, hall, hsm⟩ := HG.out
        have HRO := Lib.hid hro
        have HAL := Lib.hid hall
        have HSM := Lib.hid hsm
        clear hlt hb hro hall hsm HG
        rcases hcase with ⟨d0, m0⟩ | ⟨d0, d1, m0, m1⟩
        all_goals
          go_wp2_with fail
          go_meet
          exact ⟨out, all, HRO.out, rfl, ⟨HAL.out, HSM.out, by omega⟩, HB.out⟩
  case rest =>
    obtain ⟨out, all, HRO, rfl, HOA, HB⟩ := hcut
    obtain ⟨A5, c5, rfl, _, hrd⟩ := HRO.out.read
    have hsum := sumT_small _ HOA.out.2.1
    rw [List.length_map] at hsum
    have hal : ∀ m ∈ out, m.t.al.length ≤ 70000 := fun m hm => by
      have := (HOA.out.2.1 m.t (List.mem_map_of_mem hm)).2
      omega
    have hol := HOA.out.2.2
    have HJ := Lib.hid (join_any wc A5 out.length c5 out hrd (by omega) (by omega) hal)
    obtain ⟨ht1, ht2, ht3, ht4⟩ := joinT_all (out.map Tq.t)
    rw [← HOA.out.1] at ht1
    rw [List.length_map] at ht4
    have HSJ := Lib.hid ht3
    have HTJ := Lib.hid ht1
    have HZJ := Lib.hid (show sumT (joinT (out.map Tq.t)) ≤ 1800 by omega)
    have HLJ := Lib.hid ht4
    clear hrd hsum hal ht1 ht2 ht3 ht4 H0 H1 HK
    go_wp2_with fail
    refine HJ.out.mono ?_
    rintro e wj ⟨v, jl, rfl, hrj, hmj, bj⟩
    obtain ⟨A9, c9, rfl, _, hrd9⟩ := hrj.read
    have HR9 := Lib.hid hrd9
    have HBJ := Lib.hid (below_then HB.out HB.out.size bj)
    have HMJ := Lib.hid hmj
    have hjl : jl.length ≤ out.length := by have := HLJ.out; rw [← hmj, List.length_map] at this; exact this
    rw [← hmj] at HSJ HTJ HZJ
    have hal9 : ∀ m ∈ jl, m.t.al.length ≤ 70000 := fun m hm => by
      have h := joinT_al (fun al => al.length ≤ 70000) (out.map Tq.t) (fun t ht => by have := (HOA.out.2.1 t ht).2; show t.al.length ≤ 70000; omega) m.t (by rw [← HMJ.out]; exact List.mem_map_of_mem hm)
      exact h
    have HA9 := Lib.hid hal9
    clear hrj hrd9 hmj bj hal9
    go_upto_block 2 with (fail)
    go_cut [10] (fun s10 wx => s10 = .string (textsT (jl.map Tq.t)) ∧ wx = wj)
    case first =>
      go_wp2_with fail
      go_loopw [10, 11] (fun gv iv wr => ∃ j : Nat, j ≤ jl.length ∧ gv = .string (textsT ((jl.map Tq.t).take j)) ∧ iv = .int .i64 j ∧ wr = wj) (fun _ iv _ => jl.length - (intOf iv).toNat)
      case atStart => exact ⟨0, Nat.zero_le _, rfl, rfl, rfl⟩
      case round =>
        obtain ⟨j, hj, rfl, rfl, rfl⟩ := hrel
        by_cases hlt : j < jl.length
        · have d0 : decide ((j : Int) < (jl.length : Int)) = true := decide_eq_true (by omega)
          obtain ⟨m, hm⟩ : ∃ m, jl[j]? = some m := ⟨_, List.getElem?_eq_getElem hlt⟩
          obtain ⟨a1, rfl, k0, k1, k2, k3, k4⟩ := rdK_at HR9.out hm
          have hmt : (jl.map Tq.t)[j]? = some m.t := by rw [List.getElem?_map, hm]; rfl
          have s1 : IntKind.i64.wrap ((j : Int) + 1) = (j : Int) + 1 := IntWalk.i64_in _ (by omega)
          have HT := Lib.hid (textsT_take hmt)
          have hz1 := textsT_size ((jl.map Tq.t).take (j + 1))
          have hz2 := sumT_take (jl.map Tq.t) (j + 1)
          have hz3 := HZJ.out
          cases hq : m.t.kd == 4
          · rw [if_neg (fun e => by rw [e] at hq; exact absurd hq (by decide))] at HT
            clear hm hmt hz1 hz2 hz3
            go_wp2_with fail
            exact ⟨⟨j + 1, by omega, by rw [HT.out], by go_num, by first | rfl | trivial⟩, by simp [intOf]; omega⟩
          · have hk4 := beq_iff_eq.1 hq
            rw [if_pos hk4] at HT
            rw [HT.out, ByteArray.size_append] at hz1
            have hadd : (textsT ((jl.map Tq.t).take j)).size + m.t.tx.size ≤ 9223372036854775807 := by omega
            rcases Nat.eq_zero_or_pos j with h0 | h0
            · have d1 : decide ((j : Int) > 0) = false := decide_eq_false (by omega)
              have d2 : ¬ 0 < j := by omega
              clear hm hmt hz1 hz2 hz3 hk4 h0
              go_wp2_with fail
              exact ⟨⟨j + 1, by omega, by rw [HT.out], by go_num, by first | rfl | trivial⟩, by simp [intOf]; omega⟩
            · obtain ⟨k, rfl⟩ : ∃ k, j = k + 1 := ⟨j - 1, by omega⟩
              obtain ⟨u, hu⟩ : ∃ u, jl[k]? = some u := ⟨_, List.getElem?_eq_getElem (by omega)⟩
              obtain ⟨a2, ha2, g0, _⟩ := rdK_at HR9.out hu
              cases ha2
              have hut : (jl.map Tq.t)[k]? = some u.t := by rw [List.getElem?_map, hu]; rfl
              have hqu : (u.t.kd == 4) = false := beq_eq_false_iff_ne.2 fun e => HSJ.out k u.t m.t hut hmt ⟨e, hk4⟩
              have w1 : IntKind.i64.wrap (k : Int) = (k : Int) := IntWalk.i64_in _ (by omega)
              clear hm hmt hz1 hz2 hz3 hk4 hu hut
              go_wp2_with fail
              exact ⟨⟨k + 1 + 1, by omega, by rw [HT.out], by go_num, by first | rfl | trivial⟩, by simp [intOf]; omega⟩
        · have d0 : decide ((j : Int) < (jl.length : Int)) = false := decide_eq_false (by omega)
          have he : (jl.map Tq.t).take j = jl.map Tq.t := List.take_of_length_le (by rw [List.length_map]; omega)
          rw [he]
          go_wp2_with fail
          go_meet
          exact ⟨rfl, rfl⟩
    case rest =>
      obtain ⟨rfl, rfl⟩ := hcut
      rw [HTJ.out]
      have hjj : joinT (jl.map Tq.t) = jl.map Tq.t := joinT_settled HSJ.out
      have HJ2 := Lib.hid (join_any wc A9 jl.length c9 jl HR9.out (by omega) (by have := HZJ.out; omega) HA9.out)
      rw [hjj] at HJ2
      have t1 : (all.toList == all.toList) = true := by simp
      have d5 : decide ((jl.length : Int) ≤ (out.length : Int)) = true := decide_eq_true (by omega)
      clear hjj
      go_wp2_with fail
      refine HJ2.out.mono ?_
      rintro e w5 ⟨v5, l5, rfl, hr5, hm5, b5⟩
      obtain ⟨A6, c6, rfl, _, hrd6⟩ := hr5.read
      have hl5 : l5.length = jl.length := by have := congrArg List.length hm5; simpa using this
      rw [hl5] at hrd6 ⊢
      have HTK := Lib.hid (gtokens_keep w5 A6 A9 jl.length c6 c9 l5 jl hrd6 (HR9.out.keep b5) hm5 (by omega) (fun m hm => by
        have hx : m.t ∈ jl.map Tq.t := by rw [← hm5]; exact List.mem_map_of_mem hm
        obtain ⟨m2, h2, h3⟩ := List.mem_map.1 hx
        rw [← h3]; exact HA9.out m2 h2))
      have HB5 := Lib.hid (below_then HBJ.out HBJ.out.size b5)
      clear hr5 hm5 b5 hrd6
      go_wp2_with fail
      refine HTK.out.mono ?_
      rintro e w6 ⟨rfl, b6⟩
      have HB6 := Lib.hid (below_then HB5.out HB5.out.size b6)
      clear b6
      go_wp2_with fail
      refine (tok_known _).mono ?_
      rintro e w7 ⟨rfl, b7⟩
      have HB7 := Lib.hid (below_then HB6.out HB6.out.size b7)
      clear b7
      go_wp2_with fail
      go_ret
      exact ⟨rfl, HB7.out⟩
end Go.Proofs.Ytjghkiphfpeocaa
