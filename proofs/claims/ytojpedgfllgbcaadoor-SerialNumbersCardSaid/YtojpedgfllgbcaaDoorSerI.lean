/- serial.Inner: what a node's kids are written as. -/
import Derived.Test.YtojpedgfllgbcaaDoorSerW
import Derived.Test.YtojpedgfllgbcaaDoorSerB
namespace Go.Proofs.YtojpedgfllgbcaaDoor
open Go.RowKit

/-- A builder, and a pile of jobs beside it; what the jobs lead to was there before. -/
structure Inn (w0 : World) (b p : Nat) (w : World) (vb vp : Value) (o : List UInt8) (vs : List JV) (js : List Job) : Prop where
  bd : BdV w b vb o
  pile : Pile_job w p vp vs
  jobs : JobsOk w0 vs js
  below : Below w0.heap.size w0 w
  fb : ∀ g, foot b vb g → w0.heap.size ≤ g
  fp : ∀ g, foot p vp g → w0.heap.size ≤ g
  apart : ∀ g, foot b vb g → ¬ foot p vp g
section
variable {w0 w w1 : World} {b p : Nat} {vb vp vb' vp' : Value} {o o' : List UInt8} {vs vs' : List JV} {js js' : List Job}
theorem Inn.keep (h : Inn w0 b p w vb vp o vs js) (hb : Below w.heap.size w w1) : Inn w0 b p w1 vb vp o vs js :=
  ⟨h.bd.keep hb, h.pile.keep hb, h.jobs, h.below.trans (hb.mono h.below.size), h.fb, h.fp, h.apart⟩
theorem Inn.onB (h : Inn w0 b p w vb vp o vs js) (hbd : BdV w1 b vb' o') (hb : But (foot b vb) w w1) (hg : Grown w vb vb') : Inn w0 b p w1 vb' vp o' vs js := by
  have ⟨h1, h2⟩ := BdV.of h.fb h.below.size hb hg
  refine ⟨hbd, h.pile.but hb (fun k hk hf => h.apart k hf hk), h.jobs, h.below.trans h2, h1, h.fp, fun g hf hp => ?_⟩
  rcases hg.foot b hf with hf | hf
  · exact h.apart g hf hp
  · have := h.pile.lt hp; omega
theorem Inn.onP (h : Inn w0 b p w vb vp o vs js) (hp : Pile_job w1 p vp' vs') (hj : JobsOk w0 vs' js') (hb : But (foot p vp) w w1) (hg : Grown w vp vp') : Inn w0 b p w1 vb vp' o vs' js' := by
  refine ⟨h.bd.but hb (fun k hk hf => h.apart k hk hf), hp, hj, h.below.trans (hb.below h.fp h.below.size), h.fb, fun g hf => ?_, fun g hf hq => ?_⟩
  · rcases hg.foot p hf with hf | hf
    · exact h.fp g hf
    · have := h.below.size; omega
  · rcases hg.foot p hq with hq | hq
    · exact h.apart g hf hq
    · have := h.bd.lt hf; omega
end
/-- What holds at the head of Inner's loop; n: what is left. -/
def InnAt (w0 : World) (b p : Nat) (scr : Bool) (total : List UInt8) (N : Nat) (w : World) (n : Nat) : Prop :=
  ∃ vb vp o vs js, Inn w0 b p w vb vp o vs js ∧ o ++ outJs scr js = total ∧ o.length + sumJ js ≤ N ∧ sumJ js = n
theorem inn_round {w0 w : World} {b p : Nat} {scr : Bool} {total : List UInt8} {N n0 : Nat} {vb vp : Value} {o : List UInt8} {vs : List JV} {js : List Job} (h : Inn w0 b p w vb vp o vs js) (ho : o ++ outJs scr js = total) (hn : o.length + sumJ js ≤ N) (hlt : sumJ js < n0) :
    (∃ n, InnAt w0 b p scr total N w n) ∧ least (InnAt w0 b p scr total N w) < n0 :=
  ⟨⟨_, vb, vp, o, vs, js, h, ho, hn, rfl⟩, Nat.lt_of_le_of_lt (least_le ⟨vb, vp, o, vs, js, h, ho, hn, rfl⟩) hlt⟩

theorem len_wF (f : Fo) : f.len ≤ wF f := by
  induction f with
  | nil => exact Nat.le_refl _
  | cons l k r _ ih =>
    have e : (Fo.cons l k r).len = r.len + 1 := rfl
    rw [e]
    unfold wF wl
    omega
theorem outJ_open {scr raw : Bool} {l : Lab} {k : Fo} (h : l.kind = 3) (hc : closed l = true) : outJ scr (.node raw l k) = openL l := by
  show nodeF raw l (innerF scr l k) = _
  unfold nodeF
  rw [h, hc]
  simp
theorem outJ_elem {scr raw : Bool} {l : Lab} {k : Fo} (h : l.kind = 3) (hc : closed l = false) : outJ scr (.node raw l k) = openL l ++ (innerF scr l k ++ shutL l) := by
  show nodeF raw l (innerF scr l k) = _
  unfold nodeF
  rw [h, hc]
  simp
theorem outJ_text {scr raw : Bool} {l : Lab} {k : Fo} (h : l.kind = 4) : outJ scr (.node raw l k) = if raw = true then B l.text else escT false (B l.text) := by
  show nodeF raw l (innerF scr l k) = _
  unfold nodeF
  rw [h]
  simp
theorem outJ_comm {scr raw : Bool} {l : Lab} {k : Fo} (h : l.kind = 5) : outJ scr (.node raw l k) = commL l.text := by
  show nodeF raw l (innerF scr l k) = _
  unfold nodeF
  rw [h]
  simp
theorem outJ_doct {scr raw : Bool} {l : Lab} {k : Fo} (h : l.kind = 2) : outJ scr (.node raw l k) = doctL l.name := by
  show nodeF raw l (innerF scr l k) = _
  unfold nodeF
  rw [h]
  simp
theorem outJ_cont {scr raw : Bool} {l : Lab} {k : Fo} (h : l.kind = 6) : outJ scr (.node raw l k) = innerF scr l k := by
  show nodeF raw l (innerF scr l k) = _
  unfold nodeF
  rw [h]
  simp
theorem outJ_else {scr raw : Bool} {l : Lab} {k : Fo} (h3 : l.kind ≠ 3) (h4 : l.kind ≠ 4) (h5 : l.kind ≠ 5) (h2 : l.kind ≠ 2) (h6 : l.kind ≠ 6) : outJ scr (.node raw l k) = [] := by
  show nodeF raw l (innerF scr l k) = _
  unfold nodeF
  rw [if_neg h4, if_neg h5, if_neg h2, if_neg h6, if_neg h3]
theorem jobOk_fin (w : World) (s : ByteArray) : JobOk w (none, false, s) (.fin s) := rfl
theorem shut_B (l : Lab) : B (⟨#[60, 47]⟩ ++ l.name ++ ⟨#[62]⟩) = shutL l := by rw [B_appR, B_appR]; rfl
theorem inner_out (scr : Bool) (l : Lab) (k : Fo) : outJs scr (jobsF (verbL scr l) (tmplL l) k.toL) = innerF scr l k := jobsF_out _ _ _ _

set_option maxHeartbeats 8000000 in
set_option maxRecDepth 100000 in
theorem inner_any (w : World) (l : Lab) (k : Fo) (q : Parts) (scr : Bool) (h : PartsOk w l k q) (hsz : wl l + wF k ≤ 240000) (hT : Tabs w) :
    Calls Tryd.prog 47 #[valP l k.len q, .bool scr] w fun e w' => e = .returned (.string (S (innerF scr l k))) ∧ Below w.heap.size w w' := by
  have hb0 : Below w.heap.size w (w.alloc (.cells #[.int .i64 l.kind, .int .i64 l.ns, .string l.name, .slice q.A l.attrs.length q.c, .string l.text, .slice q.K k.len q.d] 25)) := (Below.refl _ _).alloc (Nat.le_refl _) _
  have hN : NodeAt (w.alloc (.cells #[.int .i64 l.kind, .int .i64 l.ns, .string l.name, .slice q.A l.attrs.length q.c, .string l.text, .slice q.K k.len q.d] 25)) ⟨w.heap.size, 0, none⟩ l k := NodeAt.box (Blk.new w _ _ _) (h.keep hb0)
  obtain ⟨wT, hwA⟩ : ∃ wT, w.alloc (.cells #[.int .i64 l.kind, .int .i64 l.ns, .string l.name, .slice q.A l.attrs.length q.c, .string l.text, .slice q.K k.len q.d] 25) = wT := ⟨_, rfl⟩
  have hzA : wT.heap.size = w.heap.size + 1 := by rw [← hwA]; simp
  have HN : Hid (NodeAt wT ⟨w.heap.size, 0, none⟩ l k) := hwA ▸ hN
  have HB0 : Hid (Below w.heap.size w wT) := hwA ▸ hb0
  have HTA := Lib.hid (hT.keep HB0.out)
  have HNew : Hid (Calls Tryd.prog 63 #[] ((w.alloc (.cells #[.int .i64 l.kind, .int .i64 l.ns, .string l.name, .slice q.A l.attrs.length q.c, .string l.text, .slice q.K k.len q.d] 25)).alloc (.cells #[.pointer none, .slice none 0 0] 88))
      fun e w' => e = .returned (.pointer (some ⟨w.heap.size + 2, 0, none⟩)) ∧ Inn wT (w.heap.size + 1) (w.heap.size + 2) w' (.slice none 0 0) (.slice none 0 0) [] [] []) := by
    refine (new_job _).mono ?_
    rw [hwA]
    rintro e w' ⟨he, hp, hb⟩
    have hzB : (wT.alloc (.cells #[.pointer none, .slice none 0 0] 88)).heap.size = w.heap.size + 2 := by simp [hzA]
    rw [hzB] at he hp hb
    have hbd : BdV w' wT.heap.size (.slice none 0 0) [] := (BdV.new wT).keep (by rw [hzB]; exact hb)
    rw [hzA] at hbd
    refine ⟨he, hbd, hp, Top.nil, ((Below.refl wT.heap.size wT).alloc (Nat.le_refl _) _).trans (hb.mono (by omega)), fun g hg => ?_, fun g hg => ?_, fun g hg hq => ?_⟩
    · rcases hg with rfl | hg
      · omega
      · cases hg
    · rcases hg with rfl | hg
      · omega
      · cases hg
    · rcases hg with rfl | hg
      · rcases hq with hq | hq
        · omega
        · cases hq
      · cases hg
  have hk := len_wF k
  have hWl : wl l = wl l := rfl
  unfold valP
  clear hb0 hN h hT
  obtain ⟨N, hNN⟩ : ∃ N, wF k = N := ⟨_, rfl⟩
  have hNle : N ≤ 240000 := by omega
  have HNN := Lib.hid hNN
  have HSZ := Lib.hid hsz
  have HK := Lib.hid hk
  have HZA := Lib.hid hzA
  clear hNN hsz hk hzA hWl hwA
  go_enter Tryd.func47, Tryd.ntmps47
  go_wp2_with fail
  refine HNew.out.mono ?_
  rintro e w2 ⟨rfl, hin⟩
  have HW := Lib.hid (within_any wT w2 (w.heap.size + 2) (.slice none 0 0) [] [] ⟨w.heap.size, 0, none⟩ l k scr hin.pile hin.jobs HN.out hin.below hin.fp (by
    have := HK.out
    have := HNN.out
    show 0 + _ + 1 ≤ _
    omega))
  have HI := Lib.hid hin
  clear hin
  go_wp2_with fail
  refine HW.out.mono ?_
  rintro e w3 ⟨vp3, vs3, rfl, hp3, hj3, hb3, hg3⟩
  have hin := HI.out.onP hp3 hj3 hb3 hg3
  rw [List.append_nil] at hin
  have HI3 := Lib.hid hin
  clear hin hp3 hj3 hb3 hg3
  go_wp2_with fail
  go_loopw [8] (fun _ wr => ∃ n, InnAt wT (w.heap.size + 1) (w.heap.size + 2) scr (innerF scr l k) N wr n) (fun _ wr => least (InnAt wT (w.heap.size + 1) (w.heap.size + 2) scr (innerF scr l k) N wr))
  case atStart =>
    refine ⟨_, _, _, _, _, _, HI3.out, inner_out scr l k, ?_, rfl⟩
    have := jobsF_sum (verbL scr l) (tmplL l) k
    have := HNN.out
    simp only [List.length_nil]
    omega
  case round =>
    obtain ⟨n, hn⟩ := hrel
    obtain ⟨vb, vp, o, vs, js, hin, ho, hle, hs⟩ := least_mem hn
    obtain ⟨n0, hn0⟩ : ∃ n0, least (InnAt wT (w.heap.size + 1) (w.heap.size + 2) scr (innerF scr l k) N wr) = n0 := ⟨_, rfl⟩
    rw [hn0] at hs
    have HIN := Lib.hid hin
    have HO := Lib.hid ho
    have HS := Lib.hid hs
    have HN0 := Lib.hid hn0
    clear hin ho hs hn0 hn
    cases js with
    | nil =>
      obtain rfl := HIN.out.jobs.none
      have HPOP := Lib.hid (pop_none_job wr (w.heap.size + 2) vp HIN.out.pile)
      have ho := HO.out
      rw [show outJs scr [] = [] from rfl, List.append_nil] at ho
      have HOO := Lib.hid ho
      clear ho
      go_wp2_with (first
        | (go_at_call 65
           with_reducible refine HPOP.out.mono ?_
           rintro e w4 ⟨rfl, hb4⟩
           have H4 := Lib.hid ((HIN.out.keep hb4).keep ((Below.refl _ _).alloc (Nat.le_refl _) (.cells #[.pointer none, .bool false, .string ⟨#[]⟩] 92)))
           have HSTR := Lib.hid (bstring_any wT.heap.size (w.heap.size + 1) o _ (H4.out.bd.bld H4.out.fb) H4.out.below.size)
           clear hb4)
        | (go_at_call 66
           with_reducible refine HSTR.out.mono ?_
           rintro e w5 ⟨rfl, hb5⟩))
      go_ret
      exact ⟨congrArg (fun z => Ending.returned (.string (S z))) HOO.out, HB0.out.trans ((H4.out.below.trans hb5).mono HB0.out.size)⟩
    | cons j js =>
      obtain ⟨vs', x, rfl, hx, hj⟩ := HIN.out.jobs.pop
      have HJS := Lib.hid hj
      clear hj
      have hsum := sumJ_cons j js
      have hol : o.length + wJ j + sumJ js ≤ N := by omega
      have HOC : Hid (o ++ outJ scr j ++ outJs scr js = innerF scr l k) := by
        show _ = _
        rw [List.append_assoc, ← outJs_cons]; exact HO.out
      have hlen : vs'.length ≤ sumJ js := by rw [HJS.out.len]; exact sumJ_len js
      have HSS : Hid (wJ j + sumJ js = n0) := by show _ = _; rw [← hsum]; exact HS.out
      clear hsum HS HO
      cases j with
      | fin s =>
        obtain rfl : x = (none, false, s) := hx
        have HPOP : Hid (Calls Tryd.prog 65 #[.pointer (some ⟨w.heap.size + 2, 0, none⟩)] wr fun e w' => ∃ v', e = .returned (.tuple #[.agg #[.pointer none, .bool false, .string s], .bool true]) ∧ Pile_job w' (w.heap.size + 2) v' vs' ∧ But (foot (w.heap.size + 2) vp) wr w' ∧ v'.ownBlock = vp.ownBlock) :=
          pop_some_job wr (w.heap.size + 2) vp vs' _ HIN.out.pile
        have hw : wJ (.fin s) = 1 + s.size := rfl
        rw [hw] at hol HSS
        clear hw
        go_wp2_with (first
          | (go_at_call 65
             with_reducible refine HPOP.out.mono ?_
             rintro e w4 ⟨vp4, rfl, hp4, hb4, hv4⟩
             have H4 := Lib.hid ((HIN.out.onP hp4 HJS.out hb4 (.inl hv4)).keep ((Below.refl _ _).alloc (Nat.le_refl _) (.cells #[.pointer none, .bool false, .string s] 92)))
             have B4 := Lib.hid H4.out.below
             clear hp4 hb4 hv4)
          | (go_at_call 67
             with_reducible refine (write_but (w.heap.size + 1) vb o (s) _ H4.out.bd (by omega)).mono ?_
             rintro e w5 ⟨vb5, rfl, hbd5, hb5, hg5⟩
             have H5 := Lib.hid (H4.out.onB hbd5 hb5 hg5)
             clear hbd5 hb5 hg5))
        rw [HN0.out]
        refine inn_round H5.out HOC.out ?_ ?_
        · rw [List.length_append, ← size_B]; omega
        · have := HSS.out; omega
      | node raw l' k' =>
        obtain ⟨a, rfl, hna⟩ := hx
        obtain ⟨ab, ao, sp⟩ := a
        obtain ⟨rfl, q', -, c0, c1, c2, c3, c4, c5⟩ := hna.lit
        have HNA := Lib.hid hna
        have hw : wJ (.node raw l' k') = wl l' + wF k' := rfl
        rw [hw] at hol HSS
        clear hw hna c3 c5
        have HPOP : Hid (Calls Tryd.prog 65 #[.pointer (some ⟨w.heap.size + 2, 0, none⟩)] wr fun e w' => ∃ v', e = .returned (.tuple #[.agg #[.pointer (some ⟨ab, ao, none⟩), .bool raw, .string ⟨#[]⟩], .bool true]) ∧ Pile_job w' (w.heap.size + 2) v' vs' ∧ But (foot (w.heap.size + 2) vp) wr w' ∧ v'.ownBlock = vp.ownBlock) :=
          pop_some_job wr (w.heap.size + 2) vp vs' _ HIN.out.pile
        by_cases hk5 : l'.kind = 5
        · rw [hk5] at c0
          have hwl : wl l' = 40 + 2 * l'.name.size + 6 * l'.text.size + wA l'.attrs := rfl
          rw [hwl] at hol HSS
          clear hwl
          have ht : l'.text.size ≤ 240000 := by omega
          have HEO : Hid (o ++ B (⟨#[60, 33, 45, 45]⟩ ++ l'.text ++ ⟨#[45, 45, 62]⟩) ++ outJs scr js = innerF scr l k) := by
            show _ = _
            rw [← HOC.out, outJ_comm hk5, B_appR, B_appR]; rfl
          have hS : (⟨#[60, 33, 45, 45]⟩ ++ l'.text ++ ⟨#[45, 45, 62]⟩).size = 4 + l'.text.size + 3 := by simp only [ByteArray.size_append]; rfl
          go_wp2_with (first
            | (go_at_call 65
               with_reducible refine HPOP.out.mono ?_
               rintro e w4 ⟨vp4, rfl, hp4, hb4, hv4⟩
               have H4 := Lib.hid ((HIN.out.onP hp4 HJS.out hb4 (.inl hv4)).keep ((Below.refl _ _).alloc (Nat.le_refl _) (.cells #[.pointer (some ⟨ab, ao, none⟩), .bool raw, .string ⟨#[]⟩] 92)))
               have B4 := Lib.hid H4.out.below
               clear hp4 hb4 hv4
               have d0 := cell_keep B4.out c0
               have d4 := cell_keep B4.out c4)
            | (go_at_call 67
               with_reducible refine (write_but (w.heap.size + 1) vb o (⟨#[60, 33, 45, 45]⟩ ++ l'.text ++ ⟨#[45, 45, 62]⟩) _ H4.out.bd (by rw [hS]; omega)).mono ?_
               rintro e w5 ⟨vb5, rfl, hbd5, hb5, hg5⟩
               have H5 := Lib.hid (H4.out.onB hbd5 hb5 hg5)
               clear hbd5 hb5 hg5))
          rw [HN0.out]
          refine inn_round H5.out HEO.out ?_ ?_
          · rw [List.length_append, ← size_B, hS]; omega
          · have := HSS.out; omega
        by_cases hk2 : l'.kind = 2
        · rw [hk2] at c0
          have hwl : wl l' = 40 + 2 * l'.name.size + 6 * l'.text.size + wA l'.attrs := rfl
          rw [hwl] at hol HSS
          clear hwl
          have ht : l'.name.size ≤ 240000 := by omega
          have HEO : Hid (o ++ B (⟨#[60, 33, 68, 79, 67, 84, 89, 80, 69, 32]⟩ ++ l'.name ++ ⟨#[62]⟩) ++ outJs scr js = innerF scr l k) := by
            show _ = _
            rw [← HOC.out, outJ_doct hk2, B_appR, B_appR]; rfl
          have hS : (⟨#[60, 33, 68, 79, 67, 84, 89, 80, 69, 32]⟩ ++ l'.name ++ ⟨#[62]⟩).size = 10 + l'.name.size + 1 := by simp only [ByteArray.size_append]; rfl
          go_wp2_with (first
            | (go_at_call 65
               with_reducible refine HPOP.out.mono ?_
               rintro e w4 ⟨vp4, rfl, hp4, hb4, hv4⟩
               have H4 := Lib.hid ((HIN.out.onP hp4 HJS.out hb4 (.inl hv4)).keep ((Below.refl _ _).alloc (Nat.le_refl _) (.cells #[.pointer (some ⟨ab, ao, none⟩), .bool raw, .string ⟨#[]⟩] 92)))
               have B4 := Lib.hid H4.out.below
               clear hp4 hb4 hv4
               have d0 := cell_keep B4.out c0
               have d2 := cell_keep B4.out c2)
            | (go_at_call 67
               with_reducible refine (write_but (w.heap.size + 1) vb o (⟨#[60, 33, 68, 79, 67, 84, 89, 80, 69, 32]⟩ ++ l'.name ++ ⟨#[62]⟩) _ H4.out.bd (by rw [hS]; omega)).mono ?_
               rintro e w5 ⟨vb5, rfl, hbd5, hb5, hg5⟩
               have H5 := Lib.hid (H4.out.onB hbd5 hb5 hg5)
               clear hbd5 hb5 hg5))
          rw [HN0.out]
          refine inn_round H5.out HEO.out ?_ ?_
          · rw [List.length_append, ← size_B, hS]; omega
          · have := HSS.out; omega
        by_cases hk4 : l'.kind = 4
        · rw [hk4] at c0
          have hwl : wl l' = 40 + 2 * l'.name.size + 6 * l'.text.size + wA l'.attrs := rfl
          rw [hwl] at hol HSS
          clear hwl
          have ht : l'.text.size ≤ 40000 := by omega
          cases raw with
          | true =>
            have HEO : Hid (o ++ B l'.text ++ outJs scr js = innerF scr l k) := by
              show _ = _
              rw [← HOC.out, outJ_text hk4, if_pos rfl]
            go_wp2_with (first
              | (go_at_call 65
                 with_reducible refine HPOP.out.mono ?_
                 rintro e w4 ⟨vp4, rfl, hp4, hb4, hv4⟩
                 have H4 := Lib.hid ((HIN.out.onP hp4 HJS.out hb4 (.inl hv4)).keep ((Below.refl _ _).alloc (Nat.le_refl _) (.cells #[.pointer (some ⟨ab, ao, none⟩), .bool true, .string ⟨#[]⟩] 92)))
                 have B4 := Lib.hid H4.out.below
                 clear hp4 hb4 hv4
                 have d0 := cell_keep B4.out c0
                 have d4 := cell_keep B4.out c4)
              | (go_at_call 67
                 with_reducible refine (write_but (w.heap.size + 1) vb o (l'.text) _ H4.out.bd (by omega)).mono ?_
                 rintro e w5 ⟨vb5, rfl, hbd5, hb5, hg5⟩
                 have H5 := Lib.hid (H4.out.onB hbd5 hb5 hg5)
                 clear hbd5 hb5 hg5))
            rw [HN0.out]
            refine inn_round H5.out HEO.out ?_ ?_
            · rw [List.length_append, ← size_B]; omega
            · have := HSS.out; omega
          | false =>
            have hes := escT_len false _ (B l'.text) (Nat.le_refl _)
            rw [← size_B, ← size_S] at hes
            obtain ⟨E, hEE⟩ : ∃ E, S (escT false (B l'.text)) = E := ⟨_, rfl⟩
            have HEO : Hid (o ++ B E ++ outJs scr js = innerF scr l k) := by
              show _ = _
              rw [← HOC.out, outJ_text hk4, if_neg (by simp), ← hEE]; rfl
            rw [hEE] at hes
            have HEE := Lib.hid hEE
            clear hEE
            go_wp2_with (first
              | (go_at_call 65
                 with_reducible refine HPOP.out.mono ?_
                 rintro e w4 ⟨vp4, rfl, hp4, hb4, hv4⟩
                 have H4 := Lib.hid ((HIN.out.onP hp4 HJS.out hb4 (.inl hv4)).keep ((Below.refl _ _).alloc (Nat.le_refl _) (.cells #[.pointer (some ⟨ab, ao, none⟩), .bool false, .string ⟨#[]⟩] 92)))
                 have B4 := Lib.hid H4.out.below
                 clear hp4 hb4 hv4
                 have d0 := cell_keep B4.out c0
                 have d4 := cell_keep B4.out c4)
              | (go_at_call 22
                 with_reducible refine (escape_any l'.text false _ (by omega) (HTA.out.keep B4.out)).mono ?_
                 rw [HEE.out]
                 rintro e w7 ⟨rfl, hb7⟩
                 have H7 := Lib.hid (H4.out.keep hb7)
                 clear hb7)
              | (go_at_call 67
                 with_reducible refine (write_but (w.heap.size + 1) vb o (E) _ H7.out.bd (by omega)).mono ?_
                 rintro e w5 ⟨vb5, rfl, hbd5, hb5, hg5⟩
                 have H5 := Lib.hid (H7.out.onB hbd5 hb5 hg5)
                 clear hbd5 hb5 hg5))
            rw [HN0.out]
            refine inn_round H5.out HEO.out ?_ ?_
            · rw [List.length_append, ← size_B]; omega
            · have := HSS.out; omega
        by_cases hk6 : l'.kind = 6
        · rw [hk6] at c0
          have hkl := len_wF k'
          have hwp : 1 ≤ wl l' := by unfold wl; omega
          have HEO : Hid (o ++ outJs scr (jobsF (verbL scr l') (tmplL l') k'.toL ++ js) = innerF scr l k) := by
            show _ = _
            rw [← HOC.out, outJ_cont hk6, outJs_append, inner_out, List.append_assoc]
          have hsm := jobsF_sum (verbL scr l') (tmplL l') k'
          go_wp2_with (first
            | (go_at_call 65
               with_reducible refine HPOP.out.mono ?_
               rintro e w4 ⟨vp4, rfl, hp4, hb4, hv4⟩
               have H4 := Lib.hid ((HIN.out.onP hp4 HJS.out hb4 (.inl hv4)).keep ((Below.refl _ _).alloc (Nat.le_refl _) (.cells #[.pointer (some ⟨ab, ao, none⟩), .bool raw, .string ⟨#[]⟩] 92)))
               have B4 := Lib.hid H4.out.below
               clear hp4 hb4 hv4
               have d0 := cell_keep B4.out c0)
            | (go_at_call 64
               with_reducible refine (within_any wT _ (w.heap.size + 2) vp4 vs' (js) ⟨ab, ao, none⟩ l' k' scr H4.out.pile H4.out.jobs HNA.out H4.out.below H4.out.fp (by omega)).mono ?_
               rintro e w6 ⟨vp6, vs6, rfl, hp6, hj6, hb6, hg6⟩
               have H6 := Lib.hid (H4.out.onP hp6 hj6 hb6 hg6)
               clear hp6 hj6 hb6 hg6))
          rw [HN0.out]
          refine inn_round H6.out HEO.out ?_ ?_
          · rw [sumJ_append]; omega
          · rw [sumJ_append]; have := HSS.out; omega
        by_cases hk3 : l'.kind = 3
        · rw [hk3] at c0
          have hkl := len_wF k'
          have hop := openL_len l'
          rw [← size_S] at hop
          have hsh := shutL_len l'
          have HNC : Hid (∀ wr, Below wT.heap.size wT wr → wr.cell? ⟨ab, ao + 1, none⟩ = some (.int .i64 l'.ns) ∧ wr.cell? ⟨ab, ao + 2, none⟩ = some (.string l'.name)) := fun wr hb => ⟨cell_keep hb c1, cell_keep hb c2⟩
          have hbeg : Hid (∀ wr, Below wT.heap.size wT wr → Calls Tryd.prog 68 #[.pointer (some ⟨ab, ao, none⟩)] wr fun e w' => e = .returned (.string (S (openL l'))) ∧ Below wr.heap.size wr w') := fun wr hb => begin_any wr _ l' k' (HNA.out.keep hb) (by omega) (HTA.out.keep hb)
          obtain ⟨E, hEE⟩ : ∃ E, S (openL l') = E := ⟨_, rfl⟩
          rw [hEE] at hop hbeg
          have HBE : Hid (B E = openL l') := by show _ = _; rw [← hEE]; rfl
          clear hEE c1 c2
          have HPU : Hid (∀ wr vp vs', Pile_job wr (w.heap.size + 2) vp vs' → vs'.length ≤ 240000 → Calls Tryd.prog 70 #[.pointer (some ⟨w.heap.size + 2, 0, none⟩), .agg #[.pointer none, .bool false, .string (⟨#[60, 47]⟩ ++ l'.name ++ ⟨#[62]⟩)]] wr fun e w' => ∃ v', e = .returned (.tuple #[]) ∧ Pile_job w' (w.heap.size + 2) v' (vs' ++ [(none, false, ⟨#[60, 47]⟩ ++ l'.name ++ ⟨#[62]⟩)]) ∧ But (foot (w.heap.size + 2) vp) wr w' ∧ Grown wr vp v') :=
            fun wr vp vs' hp hl => push_job wr (w.heap.size + 2) vp vs' _ hp (by omega)
          have hwl : wl l' = 40 + 2 * l'.name.size + 6 * l'.text.size + wA l'.attrs := rfl
          rw [hwl] at hol HSS
          clear hwl
          cases hns : (l'.ns == 1)
          · have hns' : (l'.ns != 1) = true := by rw [bne, hns]; rfl
            have hcl : closed l' = false := by unfold closed; rw [hns]; rfl
            have hsm := jobsF_sum (verbL scr l') (tmplL l') k'
            have HEO : Hid (o ++ B E ++ outJs scr (jobsF (verbL scr l') (tmplL l') k'.toL ++ .fin (⟨#[60, 47]⟩ ++ l'.name ++ ⟨#[62]⟩) :: js) = innerF scr l k) := by
              show _ = _
              rw [← HOC.out, outJ_elem hk3 hcl, HBE.out, outJs_append, inner_out, outJs_cons, show outJ scr (.fin (⟨#[60, 47]⟩ ++ l'.name ++ ⟨#[62]⟩)) = shutL l' from shut_B l']
              simp only [List.append_assoc]
            have hwe : wJ (.fin (⟨#[60, 47]⟩ ++ l'.name ++ ⟨#[62]⟩)) = 4 + l'.name.size := by
              show 1 + (_ ++ _ ++ _ : ByteArray).size = _
              rw [ByteArray.size_append, ByteArray.size_append]
              show 1 + (2 + _ + 1) = _
              omega
            clear hcl
            go_wp2_with (first
              | (go_at_call 65
                 with_reducible refine HPOP.out.mono ?_
                 rintro e w4 ⟨vp4, rfl, hp4, hb4, hv4⟩
                 have H4 := Lib.hid ((HIN.out.onP hp4 HJS.out hb4 (.inl hv4)).keep ((Below.refl _ _).alloc (Nat.le_refl _) (.cells #[.pointer (some ⟨ab, ao, none⟩), .bool raw, .string ⟨#[]⟩] 92)))
                 have B4 := Lib.hid H4.out.below
                 clear hp4 hb4 hv4
                 have d0 := cell_keep B4.out c0)
              | (go_at_call 68
                 with_reducible refine (hbeg.out _ B4.out).mono ?_
                 rintro e w7 ⟨rfl, hb7⟩
                 have H7 := Lib.hid (H4.out.keep hb7)
                 clear hb7)
              | (go_at_call 67
                 with_reducible refine (write_but (w.heap.size + 1) vb o (E) _ H7.out.bd (by omega)).mono ?_
                 rintro e w5 ⟨vb5, rfl, hbd5, hb5, hg5⟩
                 have H5 := Lib.hid (H7.out.onB hbd5 hb5 hg5)
                 clear hbd5 hb5 hg5
                 obtain ⟨d1, d2⟩ := HNC.out _ H5.out.below)
              | (go_at_call 70
                 with_reducible refine (HPU.out _ vp4 vs' H5.out.pile (by omega)).mono ?_
                 rintro e w9 ⟨vp9, rfl, hp9, hb9, hg9⟩
                 have H9 := Lib.hid (H5.out.onP hp9 (H5.out.jobs.push (jobOk_fin wT _)) hb9 hg9)
                 have HL9 : Hid ((vs' ++ [((none : Option Addr), false, ⟨#[60, 47]⟩ ++ l'.name ++ ⟨#[62]⟩)]).length = vs'.length + 1) := List.length_append
                 clear hp9 hb9 hg9)
              | (go_at_call 64
                 with_reducible refine (within_any wT _ (w.heap.size + 2) vp9 _ (_) ⟨ab, ao, none⟩ l' k' scr H9.out.pile H9.out.jobs HNA.out H9.out.below H9.out.fp (by rw [HL9.out]; omega)).mono ?_
                 rintro e w6 ⟨vp6, vs6, rfl, hp6, hj6, hb6, hg6⟩
                 have H6 := Lib.hid (H9.out.onP hp6 hj6 hb6 hg6)
                 clear hp6 hj6 hb6 hg6))
            rw [HN0.out]
            refine inn_round H6.out HEO.out ?_ ?_
            · rw [List.length_append, ← size_B, sumJ_append, sumJ_cons, hwe]; omega
            · rw [sumJ_append, sumJ_cons, hwe]; have := HSS.out; omega
          · have hns' : (l'.ns != 1) = false := by rw [bne, hns]; rfl
            cases hv : isNm l'.name voidN
            · have hcl : closed l' = false := by unfold closed; rw [hns, hv]; rfl
              have hsm := jobsF_sum (verbL scr l') (tmplL l') k'
              have HEO : Hid (o ++ B E ++ outJs scr (jobsF (verbL scr l') (tmplL l') k'.toL ++ .fin (⟨#[60, 47]⟩ ++ l'.name ++ ⟨#[62]⟩) :: js) = innerF scr l k) := by
                show _ = _
                rw [← HOC.out, outJ_elem hk3 hcl, HBE.out, outJs_append, inner_out, outJs_cons, show outJ scr (.fin (⟨#[60, 47]⟩ ++ l'.name ++ ⟨#[62]⟩)) = shutL l' from shut_B l']
                simp only [List.append_assoc]
              have hwe : wJ (.fin (⟨#[60, 47]⟩ ++ l'.name ++ ⟨#[62]⟩)) = 4 + l'.name.size := by
                show 1 + (_ ++ _ ++ _ : ByteArray).size = _
                rw [ByteArray.size_append, ByteArray.size_append]
                show 1 + (2 + _ + 1) = _
                omega
              clear hcl
              go_wp2_with (first
                | (go_at_call 65
                   with_reducible refine HPOP.out.mono ?_
                   rintro e w4 ⟨vp4, rfl, hp4, hb4, hv4⟩
                   have H4 := Lib.hid ((HIN.out.onP hp4 HJS.out hb4 (.inl hv4)).keep ((Below.refl _ _).alloc (Nat.le_refl _) (.cells #[.pointer (some ⟨ab, ao, none⟩), .bool raw, .string ⟨#[]⟩] 92)))
                   have B4 := Lib.hid H4.out.below
                   clear hp4 hb4 hv4
                   have d0 := cell_keep B4.out c0)
                | (go_at_call 68
                   with_reducible refine (hbeg.out _ B4.out).mono ?_
                   rintro e w7 ⟨rfl, hb7⟩
                   have H7 := Lib.hid (H4.out.keep hb7)
                   clear hb7)
                | (go_at_call 67
                   with_reducible refine (write_but (w.heap.size + 1) vb o (E) _ H7.out.bd (by omega)).mono ?_
                   rintro e w5 ⟨vb5, rfl, hbd5, hb5, hg5⟩
                   have H5 := Lib.hid (H7.out.onB hbd5 hb5 hg5)
                   clear hbd5 hb5 hg5
                   obtain ⟨d1, d2⟩ := HNC.out _ H5.out.below)
                | (go_at_call 69
                   with_reducible refine (nvoid_any _ l'.name).mono ?_
                   rw [hv]
                   rintro e w8 ⟨rfl, rfl⟩)
                | (go_at_call 70
                   with_reducible refine (HPU.out _ vp4 vs' H5.out.pile (by omega)).mono ?_
                   rintro e w9 ⟨vp9, rfl, hp9, hb9, hg9⟩
                   have H9 := Lib.hid (H5.out.onP hp9 (H5.out.jobs.push (jobOk_fin wT _)) hb9 hg9)
                   have HL9 : Hid ((vs' ++ [((none : Option Addr), false, ⟨#[60, 47]⟩ ++ l'.name ++ ⟨#[62]⟩)]).length = vs'.length + 1) := List.length_append
                   clear hp9 hb9 hg9)
                | (go_at_call 64
                   with_reducible refine (within_any wT _ (w.heap.size + 2) vp9 _ (_) ⟨ab, ao, none⟩ l' k' scr H9.out.pile H9.out.jobs HNA.out H9.out.below H9.out.fp (by rw [HL9.out]; omega)).mono ?_
                   rintro e w6 ⟨vp6, vs6, rfl, hp6, hj6, hb6, hg6⟩
                   have H6 := Lib.hid (H9.out.onP hp6 hj6 hb6 hg6)
                   clear hp6 hj6 hb6 hg6))
              rw [HN0.out]
              refine inn_round H6.out HEO.out ?_ ?_
              · rw [List.length_append, ← size_B, sumJ_append, sumJ_cons, hwe]; omega
              · rw [sumJ_append, sumJ_cons, hwe]; have := HSS.out; omega
            · have hcl : closed l' = true := by unfold closed; rw [hns, hv]; rfl
              have HEO : Hid (o ++ B E ++ outJs scr js = innerF scr l k) := by
                show _ = _
                rw [← HOC.out, outJ_open hk3 hcl, HBE.out]
              clear hcl
              go_wp2_with (first
                | (go_at_call 65
                   with_reducible refine HPOP.out.mono ?_
                   rintro e w4 ⟨vp4, rfl, hp4, hb4, hv4⟩
                   have H4 := Lib.hid ((HIN.out.onP hp4 HJS.out hb4 (.inl hv4)).keep ((Below.refl _ _).alloc (Nat.le_refl _) (.cells #[.pointer (some ⟨ab, ao, none⟩), .bool raw, .string ⟨#[]⟩] 92)))
                   have B4 := Lib.hid H4.out.below
                   clear hp4 hb4 hv4
                   have d0 := cell_keep B4.out c0)
                | (go_at_call 68
                   with_reducible refine (hbeg.out _ B4.out).mono ?_
                   rintro e w7 ⟨rfl, hb7⟩
                   have H7 := Lib.hid (H4.out.keep hb7)
                   clear hb7)
                | (go_at_call 67
                   with_reducible refine (write_but (w.heap.size + 1) vb o (E) _ H7.out.bd (by omega)).mono ?_
                   rintro e w5 ⟨vb5, rfl, hbd5, hb5, hg5⟩
                   have H5 := Lib.hid (H7.out.onB hbd5 hb5 hg5)
                   clear hbd5 hb5 hg5
                   obtain ⟨d1, d2⟩ := HNC.out _ H5.out.below)
                | (go_at_call 69
                   with_reducible refine (nvoid_any _ l'.name).mono ?_
                   rw [hv]
                   rintro e w8 ⟨rfl, rfl⟩))
              rw [HN0.out]
              refine inn_round H5.out HEO.out ?_ ?_
              · rw [List.length_append, ← size_B]; omega
              · have := HSS.out; omega
        have HEO : Hid (o ++ outJs scr js = innerF scr l k) := by
          show _ = _
          rw [← HOC.out, outJ_else hk3 hk4 hk5 hk2 hk6, List.append_nil]
        have hwp : 1 ≤ wl l' := by unfold wl; omega
        have k2 : (l'.kind == 2) = false := by simpa using hk2
        have k3 : (l'.kind == 3) = false := by simpa using hk3
        have k4 : (l'.kind == 4) = false := by simpa using hk4
        have k5 : (l'.kind == 5) = false := by simpa using hk5
        have k6 : (l'.kind == 6) = false := by simpa using hk6
        clear hk2 hk3 hk4 hk5 hk6
        go_wp2_with (first
          | (go_at_call 65
             with_reducible refine HPOP.out.mono ?_
             rintro e w4 ⟨vp4, rfl, hp4, hb4, hv4⟩
             have H4 := Lib.hid ((HIN.out.onP hp4 HJS.out hb4 (.inl hv4)).keep ((Below.refl _ _).alloc (Nat.le_refl _) (.cells #[.pointer (some ⟨ab, ao, none⟩), .bool raw, .string ⟨#[]⟩] 92)))
             have B4 := Lib.hid H4.out.below
             clear hp4 hb4 hv4
             have d0 := cell_keep B4.out c0))
        rw [HN0.out]
        refine inn_round H4.out HEO.out ?_ ?_
        · omega
        · have := HSS.out; omega
end Go.Proofs.YtojpedgfllgbcaaDoor
