/- The reference's Inner, for any tree. -/
import Derived.Test.YtojpedgfllgbcaaDoorSerF
namespace Go.Proofs.YtojpedgfllgbcaaDoor
open Go.RowKit Go.BigFrame

theorem jobs_take {raw tmpl : Bool} {l : List (Lab × Fo)} {m : Nat} {x : Lab × Fo} (h : l[m]? = some x) : jobsF raw tmpl (l.take (m + 1)) = jobsF raw tmpl (l.take m) ++ (if shown tmpl x = true then [Job.node raw x.1 x.2] else []) := by
  have ha : ∀ a b : List (Lab × Fo), jobsF raw tmpl (a ++ b) = jobsF raw tmpl a ++ jobsF raw tmpl b := fun a b => by unfold jobsF; rw [List.filter_append, List.map_append]
  have h1 : jobsF raw tmpl [x] = if shown tmpl x = true then [Job.node raw x.1 x.2] else [] := by rw [jobsF_cons]; exact List.append_nil _
  rw [List.take_add_one, h, Option.toList_some, ha, h1]
theorem len_wF2 (f : Fo) : f.len ≤ wF f := by
  induction f with
  | nil => exact Nat.le_refl _
  | cons l k r _ ih =>
    have e : (Fo.cons l k r).len = r.len + 1 := rfl
    rw [e]
    unfold wF wl
    omega
theorem wF_mem {f : Fo} {x : Lab × Fo} (h : x ∈ f.toL) : wl x.1 + wF x.2 ≤ wF f := by
  induction f with
  | nil => cases h
  | cons l k r _ ih =>
    rw [show wF (.cons l k r) = wl l + wF k + wF r from rfl]
    rcases List.mem_cons.1 h with rfl | h
    · exact Nat.le_add_right _ _
    · have := ih h; omega
theorem outJs_len (scr : Bool) (raw tmpl : Bool) (l : List (Lab × Fo)) : (outJs scr (jobsF raw tmpl l)).length ≤ wF (Fo.ofL l) := by
  have := outF_len scr (Fo.ofL l) raw tmpl
  rw [← jobsF_out, Fo.to_of] at this
  exact this
theorem wF_take (l : List (Lab × Fo)) (m : Nat) : wF (Fo.ofL (l.take m)) ≤ wF (Fo.ofL l) := by
  induction l generalizing m with
  | nil => simp
  | cons x t ih =>
    cases m with
    | zero => exact Nat.zero_le _
    | succ m =>
      have := ih m
      rw [List.take_succ_cons]
      simp only [Fo.ofL, wF]
      omega

set_option maxHeartbeats 4000000 in
set_option maxRecDepth 100000 in
theorem rinner_of (w : World) (l : Lab) (k : Fo) (q : Parts) (scr : Bool) (h : PartsOk w l k q) (hsz : wl l + wF k ≤ 240000)
    (HR : ∀ x ∈ k.toL, ∀ w' q', Below w.heap.size w w' → PartsOk w' x.1 x.2 q' → ∀ raw, Calls Tryd.prog 62 #[valP x.1 x.2.len q', .bool scr, .bool raw] w' fun e w'' => e = .returned (.string (S (nodeF raw x.1 (innerF scr x.1 x.2)))) ∧ Below w'.heap.size w' w'') : InnerOk w l k q scr := by
  unfold InnerOk
  have hb0 : Below w.heap.size w (w.alloc (.cells #[.int .i64 l.kind, .int .i64 l.ns, .string l.name, .slice q.A l.attrs.length q.c, .string l.text, .slice q.K k.len q.d] 25)) := (Below.refl _ _).alloc (Nat.le_refl _) _
  have hB : Blk (w.alloc (.cells #[.int .i64 l.kind, .int .i64 l.ns, .string l.name, .slice q.A l.attrs.length q.c, .string l.text, .slice q.K k.len q.d] 25)) w.heap.size 25 #[.int .i64 l.kind, .int .i64 l.ns, .string l.name, .slice q.A l.attrs.length q.c, .string l.text, .slice q.K k.len q.d] (0, 0) := Blk.new w _ _ _
  obtain ⟨wT, hwT⟩ : ∃ wT, w.alloc (.cells #[.int .i64 l.kind, .int .i64 l.ns, .string l.name, .slice q.A l.attrs.length q.c, .string l.text, .slice q.K k.len q.d] 25) = wT := ⟨_, rfl⟩
  have HBT : Hid (Below w.heap.size w wT) := hwT ▸ hb0
  have HBB : Hid (Blk wT w.heap.size 25 #[.int .i64 l.kind, .int .i64 l.ns, .string l.name, .slice q.A l.attrs.length q.c, .string l.text, .slice q.K k.len q.d] (0, 0)) := hwT ▸ hB
  have HWT := Lib.hid hwT
  obtain ⟨n, hn⟩ : ∃ n, k.len = n := ⟨_, rfl⟩
  have hlen : k.toL.length = n := hn
  have HK := Lib.hid h.2
  have HL := Lib.hid hlen
  have HRR := Lib.hid HR
  have hwk : wF k ≤ 240000 := by omega
  have hn1 : n ≤ 240000 := by have := len_wF2 k; omega
  rw [hn] at HBB HWT
  unfold valP
  rw [hn]
  have HC : Hid (∀ W, Below wT.heap.size wT W → W.cell? ⟨w.heap.size, 0, none⟩ = some (.int .i64 l.kind) ∧ W.cell? ⟨w.heap.size, 1, none⟩ = some (.int .i64 l.ns) ∧ W.cell? ⟨w.heap.size, 2, none⟩ = some (.string l.name) ∧ W.cell? ⟨w.heap.size, 5, none⟩ = some (.slice q.K n q.d)) := fun W hb => by
    have h := HBB.out.keep hb
    exact ⟨h.cell 0, h.cell 1, h.cell 2, h.cell 5⟩
  have hOF : Hid (innerF scr l k = outJs scr (jobsF (verbL scr l) (tmplL l) k.toL)) := (jobsF_out _ _ _ _).symm
  have HLN : Hid (∀ m, (outJs scr (jobsF (verbL scr l) (tmplL l) (k.toL.take m))).length ≤ 240000) := fun m => by
    have h1 := outJs_len scr (verbL scr l) (tmplL l) (k.toL.take m)
    have h2 := wF_take k.toL m
    rw [Fo.of_to] at h2
    omega
  clear hb0 hB hwT hn hlen h HR
  have hway : ((l.kind == 3) = false ∧ verbL scr l = false ∧ tmplL l = false) ∨ ((l.kind == 3) = true ∧ (l.ns == 1) = false ∧ verbL scr l = false ∧ tmplL l = false) ∨ ((l.kind == 3) = true ∧ (l.ns == 1) = true ∧ (l.name.toList == [116, 101, 109, 112, 108, 97, 116, 101]) = true ∧ (rawK l.name scr == 3) = false ∧ (rawK l.name scr == 4) = false ∧ verbL scr l = false ∧ tmplL l = true) ∨
      ((l.kind == 3) = true ∧ (l.ns == 1) = true ∧ (l.name.toList == [116, 101, 109, 112, 108, 97, 116, 101]) = false ∧ (rawK l.name scr == 3) = true ∧ verbL scr l = true ∧ tmplL l = false) ∨ ((l.kind == 3) = true ∧ (l.ns == 1) = true ∧ (l.name.toList == [116, 101, 109, 112, 108, 97, 116, 101]) = false ∧ (rawK l.name scr == 3) = false ∧ (rawK l.name scr == 4) = true ∧ verbL scr l = true ∧ tmplL l = false) ∨
      ((l.kind == 3) = true ∧ (l.ns == 1) = true ∧ (l.name.toList == [116, 101, 109, 112, 108, 97, 116, 101]) = false ∧ (rawK l.name scr == 3) = false ∧ (rawK l.name scr == 4) = false ∧ verbL scr l = false ∧ tmplL l = false) := by
    have e : templN.toList = [116, 101, 109, 112, 108, 97, 116, 101] := by decide +kernel
    rw [← e]
    have hv : verbL scr l = ((l.kind == 3 && l.ns == 1) && (rawK l.name scr == 3 || rawK l.name scr == 4)) := rfl
    have ht : tmplL l = ((l.kind == 3 && l.ns == 1) && l.name.toList == templN.toList) := rfl
    have htv : (l.name.toList == templN.toList) = true → rawK l.name scr = 1 := fun h => by
      rw [toList_inj h]
      cases scr <;> decide +kernel
    rw [hv, ht]
    cases h1 : (l.kind == 3)
    · exact .inl ⟨rfl, rfl, rfl⟩
    · cases h2 : (l.ns == 1)
      · exact .inr (.inl ⟨rfl, rfl, rfl, rfl⟩)
      · cases h3 : (l.name.toList == templN.toList)
        · cases h4 : (rawK l.name scr == 3)
          · cases h5 : (rawK l.name scr == 4)
            · exact .inr (.inr (.inr (.inr (.inr ⟨rfl, rfl, rfl, rfl, rfl, rfl, rfl⟩))))
            · exact .inr (.inr (.inr (.inr (.inl ⟨rfl, rfl, rfl, rfl, rfl, rfl, rfl⟩))))
          · exact .inr (.inr (.inr (.inl ⟨rfl, rfl, rfl, rfl, rfl, rfl⟩)))
        · rw [htv h3]
          exact .inr (.inr (.inl ⟨rfl, rfl, rfl, rfl, rfl, rfl, rfl⟩))
  have HRAW := fun W => Lib.hid (rraw_any W l.name scr)
  rcases hway with ⟨h1, hv, ht⟩ | ⟨h1, h2, hv, ht⟩ | ⟨h1, h2, h3, h4, h5, hv, ht⟩ | ⟨h1, h2, h3, h4, hv, ht⟩ | ⟨h1, h2, h3, h4, h5, hv, ht⟩ | ⟨h1, h2, h3, h4, h5, hv, ht⟩
  all_goals
    have HV := Lib.hid hv
    have HT := Lib.hid ht
    clear hv ht
    go_enter Tryd.func46, Tryd.ntmps46
    go_wp2_with (go_at_call 61; with_reducible refine (HRAW _).out.mono ?_; rintro e w7 ⟨rfl, rfl⟩)
    go_loopw [8, 9] (fun sv iv wr => ∃ (j : Nat) (o : ByteArray), j ≤ n ∧ iv = .int .i64 j ∧ sv = .string o ∧ B o = outJs scr (jobsF (verbL scr l) (tmplL l) (k.toL.take j)) ∧ Below wT.heap.size wT wr) (fun _ iv _ => n - (intOf iv).toNat)
    case atStart => exact ⟨0, _, Nat.zero_le _, rfl, rfl, rfl, by have hq := HWT.out; subst hq; exact Below.refl _ _⟩
    case round =>
      obtain ⟨j, o, hj, rfl, rfl, ho, hb⟩ := hrel
      have hos : o.size ≤ 240000 := by rw [size_B, ho]; exact HLN.out j
      have HO := Lib.hid ho
      have HBR := Lib.hid hb
      clear ho hb
      obtain ⟨c0, c1, c2, c5⟩ := HC.out wr HBR.out
      by_cases hlt : j < n
      · have d0 : decide ((j : Int) < (n : Int)) = true := decide_eq_true (by omega)
        have i1 : IntKind.i64.wrap ((j : Int) + 1) = (j : Int) + 1 := IntWalk.i64_in _ (by omega)
        obtain ⟨x, hx⟩ : ∃ x, k.toL[j]? = some x := ⟨_, List.getElem?_eq_getElem (by rw [HL.out]; omega)⟩
        obtain ⟨ad, hK, hnx⟩ := HK.out.get hx
        have hxm : x ∈ k.toL := List.mem_of_getElem? hx
        have hnw := (hnx.keep HBT.out).keep HBR.out
        rw [hK] at c5
        obtain ⟨ea, hea⟩ : ∃ ea, ad.add (j * 6) = ea := ⟨_, rfl⟩
        rw [hea] at hnw
        obtain ⟨eb, eo, sp⟩ := ea
        obtain ⟨rfl, q', hq', e0, e1, e2, e3, e4, e5⟩ := hnw.lit
        have hbw : Below w.heap.size w wr := HBT.out.trans (HBR.out.mono HBT.out.size)
        have HRX : Hid (∀ raw, Calls Tryd.prog 62 #[.agg #[.int .i64 x.1.kind, .int .i64 x.1.ns, .string x.1.name, .slice q'.A x.1.attrs.length q'.c, .string x.1.text, .slice q'.K x.2.len q'.d], .bool scr, .bool raw] wr fun e w'' => e = .returned (.string (S (nodeF raw x.1 (innerF scr x.1 x.2)))) ∧ Below wr.heap.size wr w'') := HRR.out x hxm wr q' hbw hq'
        have hone : Hid (∀ raw, (S (nodeF raw x.1 (innerF scr x.1 x.2))).size ≤ 240000) := fun raw => by
          have h1 := nodeF_len raw x.1 (innerF scr x.1 x.2)
          have h2 := outF_len scr x.2 (verbL scr x.1) (tmplL x.1)
          have h3 := wF_mem hxm
          unfold innerF at h1
          rw [size_S]
          unfold innerF
          omega
        have HX := Lib.hid hx
        clear hx hnx hnw hq' hbw hxm hK
        cases h6 : (x.1.kind == 6)
        all_goals
          go_wp2_with (go_at_call 62; with_reducible refine (HRX.out _).mono ?_; rintro e w8 ⟨rfl, hb8⟩; have q1 := hone.out true; have q2 := hone.out false)
          go_roundw
          case measure => simp [intOf]; omega
          case rel =>
          first
            | (refine ⟨j + 1, _, by omega, by go_num, rfl, ?_, HBR.out.trans (hb8.mono HBR.out.size)⟩
               rw [jobs_take HX.out, if_pos (by unfold shown; rw [HT.out]; first | rfl | exact h6), outJs_append, B_appR, HO.out, HV.out]
               rw [show ∀ r, outJs scr [Job.node r x.1 x.2] = nodeF r x.1 (innerF scr x.1 x.2) from fun r => List.append_nil _]
               rfl)
            | (refine ⟨j + 1, _, by omega, by go_num, rfl, ?_, HBR.out⟩
               rw [jobs_take HX.out, if_neg (by unfold shown; rw [HT.out, h6]; simp), List.append_nil]
               exact HO.out)
      · have d0 : decide ((j : Int) < (n : Int)) = false := decide_eq_false (by omega)
        have ho := HO.out
        rw [List.take_of_length_le (by rw [HL.out]; omega), ← hOF.out] at ho
        have HOO := Lib.hid ho
        clear ho
        go_wp2_with fail
        go_ret
        exact ⟨ret_strR HOO.out, HBT.out.trans (HBR.out.mono HBT.out.size)⟩
theorem rinner_any (scr : Bool) : ∀ (n : Nat) (k : Fo), wF k < n → ∀ (w : World) (l : Lab) (q : Parts), PartsOk w l k q → wl l + wF k ≤ 240000 → InnerOk w l k q scr
  | 0, _, h, _, _, _, _, _ => absurd h (by omega)
  | n + 1, k, hk, w, l, q, h, hsz => rinner_of w l k q scr h hsz fun x hx w' q' hb hq raw => by
    have hm := wF_mem hx
    have hp : 40 ≤ wl x.1 := by unfold wl; omega
    exact rone_of w' x.1 x.2 q' scr raw hq (by omega) fun w2 hb2 => rinner_any scr n x.2 (by omega) w2 x.1 q' (hq.keep hb2) (by omega)
end Go.Proofs.YtojpedgfllgbcaaDoor
