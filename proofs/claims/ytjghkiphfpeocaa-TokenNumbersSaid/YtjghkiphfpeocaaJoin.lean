/- token.Copy, token.Join. -/
import Derived.Test.YtjghkiphfpeocaaTk0
import Derived.Test.YtjghkiphfpeocaaTokF
import Derived.Test.YtjghkiphfpeocaaJoinL
import Derived.LoopN
namespace Go.Proofs.Ytjghkiphfpeocaa
open Go.RowKit

set_option maxHeartbeats 4000000 in
set_option maxRecDepth 100000 in
theorem copy_any (t : Tk) (A : Option Addr) (c : Nat) (w : World) (h : RdA w A t.al.length t.al) (hl : t.al.length ≤ 70000) :
    Calls Try.prog 27 #[tkG t A c] w (TokOut w t) := by
  obtain ⟨kd, nm, al, sf, tx⟩ := t
  unfold tkG
  simp only at *
  obtain ⟨i0, hi0, hz0, hz1, hz2⟩ := info_parts info_at
  have hb0 := (below_tokG w #[.int .i64 kd, .string nm, .slice A al.length c, .bool sf, .string tx]).alloc (by simp) (.cells #[.int .i64 0, .string ⟨#[]⟩, .slice none 0 0, .bool false, .string ⟨#[]⟩] 34)
  have hT := (Blk.new w 34 #[.int .i64 kd, .string nm, .slice A al.length c, .bool sf, .string tx] (0, 0)).alloc (.cells #[.int .i64 0, .string ⟨#[]⟩, .slice none 0 0, .bool false, .string ⟨#[]⟩] 34)
  have hZ := Blk.new (w.alloc (.cells #[.int .i64 kd, .string nm, .slice A al.length c, .bool sf, .string tx] 34)) 34 #[.int .i64 0, .string ⟨#[]⟩, .slice none 0 0, .bool false, .string ⟨#[]⟩] (0, 0)
  rw [show (w.alloc (.cells #[.int .i64 kd, .string nm, .slice A al.length c, .bool sf, .string tx] 34)).heap.size = w.heap.size + 1 by simp] at hZ
  have hR := h.keep hb0
  obtain ⟨W0, hW0⟩ : ∃ W0, W0 = (w.alloc (.cells #[.int .i64 kd, .string nm, .slice A al.length c, .bool sf, .string tx] 34)).alloc (.cells #[.int .i64 0, .string ⟨#[]⟩, .slice none 0 0, .bool false, .string ⟨#[]⟩] 34) := ⟨_, rfl⟩
  have HW := Lib.hid hW0.symm
  rw [← hW0] at hb0 hT hZ hR
  obtain ⟨_, _, p2, _⟩ := cells_tokG hT
  rw [hW0] at p2
  have HT := Lib.hid hT
  have HZ := Lib.hid hZ
  have HR := Lib.hid hR.2
  have HB := Lib.hid hb0
  clear h hb0 hT hZ hR hW0
  go_enter Try.func27, Try.ntmps27
  go_wp2_with (first
    | (at_builtin
       rw [HW.out]
       refine append_made W0 W0 rfl _ (.tmp 4) _ rfl 42 i0 _ 2 32 Try.underlying32 hi0 hz0 hz1 hz2 rfl (by omega) (.slice none 0 0) 0 [] rfl (World.ownsRow_nil _ _ _ _) A al.length c _ rfl HR.out (by simp only [maxLen]; omega) (by omega) (Below.refl _ _) ?_
       intro v3 w3 hown b3 _
       obtain ⟨A3, c3, hv3, _, _, _⟩ := own_rd hown (by rw [List.nil_append]; exact row_one encOk_at al)
       rw [Nat.zero_add] at hv3
       have hrow : RowA w3 W0.heap.size v3 al := by
         unfold RowA
         simpa using hown
       subst hv3
       have h3 := HT.out.keep b3
       have z3 := HZ.out.keep b3
       have hb3 := below_then HB.out HB.out.size b3
       have hrow2 := hrow.le (base' := w.heap.size) HB.out.size
       have h4 : Blk (w3.setCell ⟨w.heap.size, 2, none⟩ (.slice A3 al.length c3)) w.heap.size 34 #[.int .i64 kd, .string nm, .slice A3 al.length c3, .bool sf, .string tx] (0, 0) := h3.set 2 _
       have z4 := z3.far (p := ⟨w.heap.size, 2, none⟩) (by simp) (.slice A3 al.length c3)
       have b4 := hb3.setCell (p := ⟨w.heap.size, 2, none⟩) (Nat.le_refl _) (.slice A3 al.length c3)
       have r4 := hrow2.set h3 tokat_ne 2 (.slice A3 al.length c3)
       obtain ⟨k0, k1, k2, k3, k4, _⟩ := cells_tokG h4
       obtain ⟨_, _, _, _, _, y0, y1, y2, y3, y4⟩ := cells_tokG z4
       obtain ⟨_, _, _, _, _, _, _, x2, _⟩ := cells_tokG h3
       obtain ⟨z5, r5⟩ := set5_tokG z4 r4 (.int .i64 kd) (.string nm) (.slice A3 al.length c3) (.bool sf) (.string tx)
       have b5 := set5_belowG b4 (Nat.le_succ _) (.int .i64 kd) (.string nm) (.slice A3 al.length c3) (.bool sf) (.string tx)
       obtain ⟨q0, q1, q2, q3, q4, _⟩ := cells_tokG z5
       have HR5 := Lib.hid r5
       have HZ5 := Lib.hid z5
       have HB5 := Lib.hid b5
       clear h3 z3 hb3 hrow hrow2 h4 z4 b4 r4 z5 r5 b5 b3 hown p2))
  refine bodyPost_ret (v := .agg #[.int .i64 kd, .string nm, .slice A3 al.length c3, .bool sf, .string tx]) (results_cell_row (fn := Try.f27) (p := 2) rfl _ _ (w.heap.size + 1) _ #[.int .i64 kd, .string nm, .slice A3 al.length c3, .bool sf, .string tx] (0, 0) _ (by rfl) HZ5.out Try.underlying34 (by rfl) (by kernel_rfl)) rfl ?_
  exact ⟨A3, c3, rfl, HR5.out, HB5.out⟩

theorem last_at {α : Type} (l : List α) (x : α) : (l ++ [x])[l.length]? = some x := by simp
set_option maxHeartbeats 4000000 in
set_option maxRecDepth 100000 in
theorem join_any (w : World) (A : Option Addr) (n c : Nat) (l : List Tq) (h : RdK w A n l) (hn : n ≤ 4096) (hs : sumT (l.map Tq.t) ≤ 65536) (ha : ∀ m ∈ l, m.t.al.length ≤ 70000) :
    Calls Try.prog 16 #[.slice A n c] w fun e w' => ∃ v out, e = .returned v ∧ RowK w' w.heap.size v out ∧ out.map Tq.t = joinT (l.map Tq.t) ∧ Below w.heap.size w w' := by
  obtain ⟨i0, hi0, hz0, hz1, hz2⟩ := info_parts info_tk
  have HH := Lib.hid h
  have HL := Lib.hid h.1
  have HS := Lib.hid hs
  have HA := Lib.hid ha
  clear h hs ha
  go_enter Try.func16, Try.ntmps16
  go_wp2_with fail
  go_loopw [3, 9] (fun v i wr => ∃ (j : Nat) (out : List Tq), j ≤ n ∧ i = .int .i64 j ∧ RowK wr w.heap.size v out ∧ Hid (out.map Tq.t = joinT ((l.map Tq.t).take j)) ∧ Below w.heap.size w wr) (fun _ i _ => n - (intOf i).toNat)
  case atStart => exact ⟨0, [], Nat.zero_le _, rfl, RowK.nil _ _, rfl, Below.refl _ _⟩
  case round =>
    obtain ⟨j, out, hj, rfl, hr, HO, hb⟩ := hrel
    have HR := Lib.hid hr
    have HB := Lib.hid hb
    by_cases hlt : j < n
    · have d0 : decide ((j : Int) < (n : Int)) = true := decide_eq_true (by omega)
      obtain ⟨m, hm⟩ : ∃ m, l[j]? = some m := ⟨_, List.getElem?_eq_getElem (by have := HL.out; omega)⟩
      obtain ⟨a1, rfl, k0, k1, k2, k3, k4⟩ := rdK_at (HH.out.keep hb) hm
      have hmem := List.mem_of_getElem? hm
      have hmr := (HH.out.keep hb).2.2 m hmem
      have hml := HA.out m hmem
      have hjs := joinT_take (l := l.map Tq.t) (j := j) (t := m.t) (by rw [List.getElem?_map, hm]; rfl)
      rw [← HO.out] at hjs
      have hsum := (joinT_all ((l.map Tq.t).take j)).2.1
      have hlen := (joinT_all ((l.map Tq.t).take j)).2.2.2
      rw [← HO.out] at hsum hlen
      have hst := sumT_take (l.map Tq.t) j
      have hst1 := (joinT_all ((l.map Tq.t).take (j + 1))).2.1
      have hst2 := sumT_take (l.map Tq.t) (j + 1)
      rw [hjs, joinStep_sum] at hst1
      rw [List.length_take, List.length_map, List.length_map] at hlen
      have hol : out.length ≤ 4096 := by omega
      have hos : sumT (out.map Tq.t) + m.t.tx.size ≤ 65536 := by have := HS.out; omega
      have s1 : IntKind.i64.wrap ((j : Int) + 1) = (j : Int) + 1 := IntWalk.i64_in _ (by omega)
      have HJ := Lib.hid hjs
      -- the copy of the range's variable
      have hb5 := below_tokG wr #[.int .i64 m.t.kd, .string m.t.nm, .slice m.A m.t.al.length m.c, .bool m.t.sf, .string m.t.tx]
      have h5 := Blk.new wr 34 #[.int .i64 m.t.kd, .string m.t.nm, .slice m.A m.t.al.length m.c, .bool m.t.sf, .string m.t.tx] (0, 0)
      obtain ⟨w5, hw5⟩ : ∃ w5, w5 = wr.alloc (.cells #[.int .i64 m.t.kd, .string m.t.nm, .slice m.A m.t.al.length m.c, .bool m.t.sf, .string m.t.tx] 34) := ⟨_, rfl⟩
      have HW5 := Lib.hid hw5.symm
      rw [← hw5] at hb5 h5
      have HB5 := Lib.hid (below_then hb hb.size hb5)
      have hr5 := hr.keep hb5
      have HC := Lib.hid (copy_any m.t m.A m.c w5 (hmr.keep hb5) hml)
      have HR5 := Lib.hid hr5
      have H5 := Lib.hid h5
      obtain ⟨q0, q1, q2, q3, q4, _⟩ := cells_tokG h5
      rw [hw5] at q0 q1 q2 q3 q4
      clear hm hmem hmr hml hjs hsum hlen hst hst1 hst2 hw5 hb5 h5 hb hr
      unfold tkG at HC
      have hcase : out = [] ∨ ∃ o u, out = o ++ [u] := by
        rcases List.eq_nil_or_concat out with h | ⟨o, u, h⟩
        · exact .inl h
        · exact .inr ⟨o, u, by rw [h, List.concat_eq_append]⟩
      rcases hcase with rfl | ⟨o, u, rfl⟩
      · obtain ⟨A3, c3, rfl, hc3, hr3⟩ := HR5.out.read
        have HN := Lib.hid (show ([] ++ [m]).map Tq.t = joinT ((l.map Tq.t).take (j + 1)) by rw [HJ.out]; rfl)
        have w1 : IntKind.i64.wrap (-1) = -1 := rfl
        simp only [List.length_nil] at *
        clear hc3 hr3
        go_wp2_with (first
          | (go_at_call 27
             rw [HW5.out]
             refine HC.out.mono ?_
             rintro e w6 ⟨A6, c6, rfl, r6, b6⟩
             have HR6 := Lib.hid (HR5.out.keep b6)
             have HQ6 := Lib.hid (r6.le (base' := 0) (Nat.zero_le _))
             have hba := below_tokG w6 (enc_tk ⟨m.t, A6, c6⟩).toArray
             have HRA := Lib.hid (HR6.out.keep hba)
             have HQA := Lib.hid (HQ6.out.keep hba)
             have HBA := Lib.hid (below_then (below_then HB5.out HB5.out.size b6) (below_then HB5.out HB5.out.size b6).size hba)
             have HRD := Lib.hid (rd_one_tk (m := ⟨m.t, A6, c6⟩) (Blk.new w6 34 (enc_tk ⟨m.t, A6, c6⟩).toArray (0, 0)))
             unfold tkG
             clear b6 r6 hba q0 q1 q2 q3 q4)
          | (at_builtin
             refine append_made w _ rfl _ (.tmp 44) _ rfl 34 i0 _ 5 72 Try.underlying30 hi0 hz0 hz1 hz2 rfl (by omega) _ _ _ rfl HRA.out.1 (some ⟨w6.heap.size, 0, none⟩) 1 1 _ rfl HRD.out (by simp only [maxLen, List.length_nil]; omega) (by simp only [List.length_nil]; omega) HBA.out ?_
             intro v7 w7 hown7 b7 g7
             have HR7 := Lib.hid (HRA.out.grow (m := ⟨m.t, A6, c6⟩) HQA.out hown7 g7)
             have HB7 := Lib.hid b7
             clear hown7 b7 g7))
        obtain ⟨A8, c8, rfl, _, _⟩ := HR7.out.read
        exact ⟨⟨j + 1, [] ++ [⟨m.t, A6, c6⟩], by omega, by go_num, HR7.out, by rw [← HN.out]; rfl, HB7.out⟩, by simp [intOf]; omega⟩
      · have hu := last_at o u
        have hol2 : o.length + 1 ≤ 4096 := by simpa using hol
        have hus : u.t.tx.size + m.t.tx.size ≤ 65536 := by
          rw [List.map_append, List.map_cons, List.map_nil, sumT_snoc] at hos
          omega
        have hla : (o ++ [u]).length = o.length + 1 := by simp
        have g0 : decide ((o.length : Int) ≥ 0) = true := decide_eq_true (by omega)
        have w1 : IntKind.i64.wrap (o.length : Int) = (o.length : Int) := IntWalk.i64_in _ (by omega)
        obtain ⟨g, c3, rfl, hbg, e0, e4, ef, hxr⟩ := HR5.out.setTx hu (u.t.tx ++ m.t.tx)
        have hg5 : w5.heap.size > g := World.block_lt_of_cell? w5 _ e0
        have HBG := Lib.hid hbg
        rw [show (o ++ [u]).length = o.length + 1 by simp] at hxr
        have HXR := Lib.hid (hxr.keep (made_drew _))
        clear hxr
        rw [hla]
        have hla2 : ∀ {W : World} {v : Value}, W.ownsRow w.heap.size 34 5 v (o ++ [u]).length ((o ++ [u]).flatMap enc_tk) → W.ownsRow w.heap.size 34 5 v (o.length + 1) ((o ++ [u]).flatMap enc_tk) := fun h => by rw [hla] at h; exact h
        have hla3 : ∀ {W : World} {v : Value} {xs : List Value}, W.ownsRow w.heap.size 34 5 v (o.length + 1 + 1) xs → W.ownsRow w.heap.size 34 5 v ((o ++ [u]).length + 1) xs := fun h => by rw [hla]; exact h
        have hkd : (m.t.kd == 4) = false ∨ ((m.t.kd == 4) = true ∧ (u.t.kd == 4) = false) ∨ ((m.t.kd == 4) = true ∧ (u.t.kd == 4) = true) := by
          cases m.t.kd == 4 <;> cases u.t.kd == 4 <;> simp
        have hkd2 := hkd
        have HKD := Lib.hid hkd
        have HE := Lib.hid (And.intro e4 ef)
        have HR5 : Hid (RowK w5 w.heap.size (.slice (some ⟨g, 0, none⟩) (o.length + 1) c3) (o ++ [u])) := by rw [← hla]; exact HR5.out
        rw [HW5.out.symm] at e0 e4 ef
        clear hu hol hos hla hbg HKD hkd
        have HJN : Hid (¬ (m.t.kd = 4 ∧ u.t.kd = 4) → ((o ++ [u]) ++ [m]).map Tq.t = joinT ((l.map Tq.t).take (j + 1))) := fun hn => by
          rw [HJ.out]
          simp only [List.map_append, List.map_cons, List.map_nil]
          unfold joinStep
          rw [List.getLast?_concat]
          simp only
          rw [if_neg hn]
        rcases hkd2 with p1 | ⟨p1, p2⟩ | ⟨p1, p2⟩
        rotate_left
        rotate_left
        · have hf : joinStep ((o ++ [u]).map Tq.t) m.t = (o ++ [(⟨{ u.t with tx := u.t.tx ++ m.t.tx }, u.A, u.c⟩ : Tq)]).map Tq.t := by
            simp only [List.map_append, List.map_cons, List.map_nil]
            unfold joinStep
            rw [List.getLast?_concat]
            simp only
            rw [if_pos ⟨beq_iff_eq.1 p1, beq_iff_eq.1 p2⟩, List.dropLast_concat]
          have HF := Lib.hid hf
          clear hf
          have y4 := (H5.out.keep (made_drew w5)).cell 4
          have hadd : u.t.tx.size + m.t.tx.size ≤ 9223372036854775807 := by omega
          have HBX := Lib.hid ((HB5.out.setCell (p := ⟨g, o.length * 5 + 4, none⟩) HBG.out (.string (u.t.tx ++ m.t.tx))).drew)
          go_upto_region 7 with (fail)
          rw [HW5.out]
          clear q0 q1 q2 q3 q4 e0 e4 ef
          obtain ⟨e4, ef⟩ := HE.out
          go_region_with (fail)
          all_goals
            go_wp2_with fail
            have hrow : RowK _ _ (.slice (some ⟨g, 0, none⟩) (o.length + 1) c3) _ := HXR.out
            rw [show (o ++ [u]).set o.length (⟨{ u.t with tx := u.t.tx ++ m.t.tx }, u.A, u.c⟩ : Tq) = o ++ [(⟨{ u.t with tx := u.t.tx ++ m.t.tx }, u.A, u.c⟩ : Tq)] by simp] at hrow
            exact ⟨⟨j + 1, _, by omega, by go_num, hrow, HF.out.symm.trans HJ.out.symm, HBX.out⟩, by simp [intOf]; omega⟩
        · have HN := Lib.hid (HJN.out (fun h => by rw [h.1] at p1; exact absurd p1 (by decide)))
          go_wp2_with (first
            | (go_at_call 27
               rw [HW5.out]
               refine HC.out.mono ?_
               rintro e w6 ⟨A6, c6, rfl, r6, b6⟩
               have HR6 := Lib.hid (HR5.out.keep b6)
               have HQ6 := Lib.hid (r6.le (base' := 0) (Nat.zero_le _))
               have hba := below_tokG w6 (enc_tk ⟨m.t, A6, c6⟩).toArray
               have HRA := Lib.hid (HR6.out.keep hba)
               have HQA := Lib.hid (HQ6.out.keep hba)
               have HBA := Lib.hid (below_then (below_then HB5.out HB5.out.size b6) (below_then HB5.out HB5.out.size b6).size hba)
               have HRD := Lib.hid (rd_one_tk (m := ⟨m.t, A6, c6⟩) (Blk.new w6 34 (enc_tk ⟨m.t, A6, c6⟩).toArray (0, 0)))
               unfold tkG
               clear b6 r6 hba q0 q1 q2 q3 q4)
            | (at_builtin
               refine append_made w _ rfl _ (.tmp 44) _ rfl 34 i0 _ 5 72 Try.underlying30 hi0 hz0 hz1 hz2 rfl (by omega) _ _ _ rfl (hla2 HRA.out.1) (some ⟨w6.heap.size, 0, none⟩) 1 1 _ rfl HRD.out (by simp only [maxLen]; omega) (by omega) HBA.out ?_
               intro v7 w7 hown7 b7 g7
               have HR7 := Lib.hid (HRA.out.grow (m := ⟨m.t, A6, c6⟩) HQA.out (hla3 hown7) g7)
               have HB7 := Lib.hid b7
               clear hown7 b7 g7))
          obtain ⟨A8, c8, rfl, _, _⟩ := HR7.out.read
          exact ⟨⟨j + 1, (o ++ [u]) ++ [(⟨m.t, A6, c6⟩ : Tq)], by omega, by go_num, HR7.out, Lib.hid ((show ((o ++ [u]) ++ [(⟨m.t, A6, c6⟩ : Tq)]).map Tq.t = ((o ++ [u]) ++ [m]).map Tq.t by simp).trans HN.out), HB7.out⟩, by simp [intOf]; omega⟩
        · have HN := Lib.hid (HJN.out (fun h => by rw [h.2] at p2; exact absurd p2 (by decide)))
          go_wp2_with (first
            | (go_at_call 27
               rw [HW5.out]
               refine HC.out.mono ?_
               rintro e w6 ⟨A6, c6, rfl, r6, b6⟩
               have HR6 := Lib.hid (HR5.out.keep b6)
               have HQ6 := Lib.hid (r6.le (base' := 0) (Nat.zero_le _))
               have hba := below_tokG w6 (enc_tk ⟨m.t, A6, c6⟩).toArray
               have HRA := Lib.hid (HR6.out.keep hba)
               have HQA := Lib.hid (HQ6.out.keep hba)
               have HBA := Lib.hid (below_then (below_then HB5.out HB5.out.size b6) (below_then HB5.out HB5.out.size b6).size hba)
               have HRD := Lib.hid (rd_one_tk (m := ⟨m.t, A6, c6⟩) (Blk.new w6 34 (enc_tk ⟨m.t, A6, c6⟩).toArray (0, 0)))
               unfold tkG
               clear b6 r6 hba q0 q1 q2 q3 q4)
            | (at_builtin
               refine append_made w _ rfl _ (.tmp 44) _ rfl 34 i0 _ 5 72 Try.underlying30 hi0 hz0 hz1 hz2 rfl (by omega) _ _ _ rfl (hla2 HRA.out.1) (some ⟨w6.heap.size, 0, none⟩) 1 1 _ rfl HRD.out (by simp only [maxLen]; omega) (by omega) HBA.out ?_
               intro v7 w7 hown7 b7 g7
               have HR7 := Lib.hid (HRA.out.grow (m := ⟨m.t, A6, c6⟩) HQA.out (hla3 hown7) g7)
               have HB7 := Lib.hid b7
               clear hown7 b7 g7))
          obtain ⟨A8, c8, rfl, _, _⟩ := HR7.out.read
          exact ⟨⟨j + 1, (o ++ [u]) ++ [(⟨m.t, A6, c6⟩ : Tq)], by omega, by go_num, HR7.out, Lib.hid ((show ((o ++ [u]) ++ [(⟨m.t, A6, c6⟩ : Tq)]).map Tq.t = ((o ++ [u]) ++ [m]).map Tq.t by simp).trans HN.out), HB7.out⟩, by simp [intOf]; omega⟩
    · have d0 : decide ((j : Int) < (n : Int)) = false := decide_eq_false (by omega)
      have HE := Lib.hid (show (l.map Tq.t).take j = l.map Tq.t from List.take_of_length_le (by rw [List.length_map]; have := HL.out; omega))
      clear hr hb
      go_wp2_with fail
      go_ret
      exact ⟨_, out, rfl, HR.out, by rw [HO.out, HE.out], HB.out⟩
end Go.Proofs.Ytjghkiphfpeocaa
