/- tag.rest. -/
import Derived.Test.YtdjeajbinpgpiaaTagA
import Derived.Deep.RegionHeld3
namespace Go.Proofs.Ytdjeajbinpgpiaa
open Go.RowKit

/-- A token's variable: its Kind, its name, its attributes, whether it closes itself. -/
def TokAt (w : World) (tb : Nat) (kd : Int) (nm : ByteArray) (v : Value) (sf : Bool) : Prop := Blk w tb 27 #[.int .i64 kd, .string nm, v, .bool sf, .string ⟨#[]⟩] (0, 0)
theorem TokAt.cells {w : World} {tb : Nat} {kd : Int} {nm : ByteArray} {v : Value} {sf : Bool} (h : TokAt w tb kd nm v sf) :
    w.cell? ⟨tb, 0, none⟩ = some (.int .i64 kd) ∧ w.cell? ⟨tb, 1, none⟩ = some (.string nm) ∧ w.cell? ⟨tb, 2, none⟩ = some v ∧ w.cell? ⟨tb, 3, none⟩ = some (.bool sf) ∧ w.cell? ⟨tb, 4, none⟩ = some (.string ⟨#[]⟩) ∧
    w.frozen? ⟨tb, 0, none⟩ = false ∧ w.frozen? ⟨tb, 1, none⟩ = false ∧ w.frozen? ⟨tb, 2, none⟩ = false ∧ w.frozen? ⟨tb, 3, none⟩ = false ∧ w.frozen? ⟨tb, 4, none⟩ = false :=
  ⟨Blk.cell h 0, Blk.cell h 1, Blk.cell h 2, Blk.cell h 3, Blk.cell h 4, Blk.frozen h 0 (.inr (Nat.zero_le _)), Blk.frozen h 1 (.inr (Nat.zero_le _)), Blk.frozen h 2 (.inr (Nat.zero_le _)), Blk.frozen h 3 (.inr (Nat.zero_le _)), Blk.frozen h 4 (.inr (Nat.zero_le _))⟩
theorem TokAt.keep {w w1 : World} {tb : Nat} {kd : Int} {nm : ByteArray} {v : Value} {sf : Bool} (h : TokAt w tb kd nm v sf) (hb : Below w.heap.size w w1) : TokAt w1 tb kd nm v sf := Blk.keep h hb
theorem TokAt.setSelf {w : World} {tb : Nat} {kd : Int} {nm : ByteArray} {v : Value} {sf : Bool} (h : TokAt w tb kd nm v sf) (b : Bool) : TokAt (w.setCell ⟨tb, 3, none⟩ (.bool b)) tb kd nm v b := Blk.set h 3 (.bool b)
theorem TokAt.setAttrs {w : World} {tb : Nat} {kd : Int} {nm : ByteArray} {v : Value} {sf : Bool} (h : TokAt w tb kd nm v sf) (v' : Value) : TokAt (w.setCell ⟨tb, 2, none⟩ v') tb kd nm v' sf := Blk.set h 2 v'
theorem tok_ne : 27 ≠ 82 := by decide

/-- What 'rest' leaves. -/
def RestOut (w : World) (s : ByteArray) (tb : Nat) (kd : Int) (nm : ByteArray) (r : Rt) (e : Ending) (w' : World) : Prop :=
  But (fun k => k = tb) w w' ∧ match r with
  | none => e = .returned (.tuple #[.int .i64 (s.size : Nat), .bool false])
  | some (al, sf, n) => e = .returned (.tuple #[.int .i64 (n : Nat), .bool true]) ∧ ∃ v, TokAt w' tb kd nm v sf ∧ RowA w' 0 v al
theorem out_none {w w' : World} {s : ByteArray} {tb : Nat} {kd : Int} {nm : ByteArray} {r : Rt} {n : Int} {b : Bool} (hr : r = none) (hn : n = (s.size : Nat)) (hb : b = false) (h : But (fun k => k = tb) w w') : RestOut w s tb kd nm r (.returned (.tuple #[.int .i64 n, .bool b])) w' := by
  subst hr hn hb; exact ⟨h, rfl⟩
theorem out_some {w w' : World} {s : ByteArray} {tb : Nat} {kd : Int} {nm : ByteArray} {r : Rt} {al : List At} {sf : Bool} {m : Nat} {n : Int} {b : Bool} {v : Value} (hr : r = some (al, sf, m)) (hn : n = (m : Nat)) (hb : b = true) (h : But (fun k => k = tb) w w') (ht : TokAt w' tb kd nm v sf) (ha : RowA w' 0 v al) : RestOut w s tb kd nm r (.returned (.tuple #[.int .i64 n, .bool b])) w' := by
  subst hr hn hb; exact ⟨h, rfl, v, ht, ha⟩
theorem starts_slash (s : ByteArray) (k : Nat) (h : k < s.size) : startsL (B s) [47, 62] k = (s[k] == 47 && decide ((B s)[k + 1]? = some 62)) := by
  unfold startsL Lib.occAt
  rw [drop_at s k h]
  have e : (B s).drop (k + 1) = (B s).drop (k + 1) := rfl
  cases hd : (B s).drop (k + 1) with
  | nil =>
    have h0 : (B s)[k + 1]? = none := by rw [← List.head?_drop, hd]; rfl
    show (47 == s[k] && false) = _
    rw [h0]; simp
  | cons c r =>
    have h0 : (B s)[k + 1]? = some c := by rw [← List.head?_drop, hd]; rfl
    show (47 == s[k] && (62 == c && List.isPrefixOf [] r)) = _
    rw [h0, show List.isPrefixOf [] r = true from rfl, Bool.and_true, Bool.eq_iff_iff]
    simp only [Bool.and_eq_true, beq_iff_eq, decide_eq_true_eq, Option.some.injEq]
    constructor
    · rintro ⟨a, b⟩; exact ⟨a.symm, b.symm⟩
    · rintro ⟨a, b⟩; exact ⟨a.symm, b.symm⟩
theorem addA_le (l : List At) (a : At) (n : Nat) (h : l.length ≤ n) : (addA l a).length ≤ n + 1 := by have := addA_len l a; omega

set_option maxHeartbeats 8000000 in
set_option maxRecDepth 100000 in
theorem rest_any (s : ByteArray) (k0 : Nat) (tb : Nat) (kd : Int) (nm : ByteArray) (v0 : Value) (al0 : List At) (sf0 : Bool) (w : World) (hs : s.size ≤ 65536) (hw : Lax w) (hk0 : k0 ≤ s.size)
    (ht : TokAt w tb kd nm v0 sf0) (ha : RowA w 0 v0 al0) (hal : al0.length ≤ k0) (hlx : tb ≠ 0) :
    Calls Try.prog 48 #[.string s, .int .i64 (k0 : Int), .pointer (some ⟨tb, 0, none⟩)] w (RestOut w s tb kd nm (restT (B s) k0 al0 sf0)) := by
  have hL : (B s).length = s.size := (size_B s).symm
  have HLE := Lib.hid hL
  have HW : Hid (∀ w', But (fun k => k = tb) w w' → Lax w') := by
    intro w' h
    obtain ⟨m, hm⟩ := hw
    have hlt := World.block_lt_of_cell? w _ hm
    refine ⟨m, ?_⟩
    rw [← hm]
    unfold World.cell?
    rw [h.block _ hlt (fun e => hlx e.symm)]
  have HT := Lib.hid ht
  have HA := Lib.hid ha
  clear hL hw ht ha hlx
  go_enter Try.func48, Try.ntmps48
  go_wp2_with fail
  go_loopw [1] (fun av wr => ∃ (k : Nat) (al : List At) (sf : Bool) (v : Value), k ≤ s.size ∧ av = .int .i64 k ∧ al.length ≤ k ∧ TokAt wr tb kd nm v sf ∧ RowA wr 0 v al ∧ But (fun k => k = tb) w wr ∧ Hid (restT (B s) k al sf = restT (B s) k0 al0 sf0)) (fun av _ => s.size + 1 - (intOf av).toNat)
  case atStart => exact ⟨k0, al0, sf0, v0, hk0, rfl, hal, HT.out, HA.out, But.refl _ _, rfl⟩
  case round =>
    obtain ⟨k, al, sf, v, hk, rfl, hal, ht, ha, hb, HR⟩ := hrel
    have HT := Lib.hid ht
    have HA := Lib.hid ha
    have HB := Lib.hid hb
    clear ht ha hb
    have HSK := Lib.hid (skipK s k wr hs hk)
    have hsb := skip_bd (B s) k (by rw [HLE.out]; exact hk)
    rw [HLE.out] at hsb
    have hst := restT_step (B s) k al sf (by rw [HLE.out]; exact hk)
    rw [HR.out] at hst
    generalize skipL (B s) k = t at *
    obtain ⟨h1, h2⟩ := hsb
    by_cases htl : t < s.size
    · rw [B_at s t htl] at hst
      simp only at hst
      by_cases h62 : s[t] = 62
      · have e1 : ((s[t].toNat : Int) == 62) = true := by rw [h62]; rfl
        have HV := Lib.hid (hst.trans (if_pos h62))
        clear hst h62
        go_wp2_with fail
        refine HSK.out.mono ?_
        rintro e w' ⟨rfl, rfl⟩
        go_wp2_with fail
        go_ret2
        exact out_some HV.out (by omega) rfl HB.out HT.out HA.out
      · have e1 : ((s[t].toNat : Int) == 62) = false := byte_ne (n := 62) (by omega) h62
        have hst := hst.trans (if_neg h62)
        clear h62
        have HSS := Lib.hid (startsK s t ⟨#[47, 62]⟩ wr hs h2)
        rw [show B ⟨#[47, 62]⟩ = [47, 62] from rfl, starts_slash s t htl] at HSS
        by_cases h47 : s[t] = 47
        · have e3 : ((s[t].toNat : Int) == 47) = true := by rw [h47]; rfl
          have hst := hst.trans (if_pos h47)
          rw [show (s[t] == 47) = true by rw [h47]; rfl, Bool.true_and] at HSS
          clear h47
          by_cases hn : (B s)[t + 1]? = some 62
          · have HV := Lib.hid (hst.trans (if_pos hn))
            rw [decide_eq_true hn] at HSS
            have hts := HT.out.cells
            obtain ⟨c0, c1, c2, c3, c4, f0, f1, f2, f3, f4⟩ := hts
            have hlt2 : t + 1 < s.size := by have := lt_of_at hn; rw [HLE.out] at this; exact this
            clear hst hn
            go_wp2_with fail
            refine HSK.out.mono ?_
            rintro e w' ⟨rfl, rfl⟩
            go_wp2_with fail
            refine HSS.out.mono ?_
            rintro e w' ⟨rfl, rfl⟩
            go_wp2_with fail
            go_ret2
            exact out_some HV.out (by omega) rfl (HB.out.setCell _ _ (.inl rfl)) (HT.out.setSelf true) (HA.out.set HT.out tok_ne 3 _)
          · have HV := Lib.hid (hst.trans (if_neg hn))
            rw [decide_eq_false hn] at HSS
            clear hst hn
            go_wp2_with fail
            refine HSK.out.mono ?_
            rintro e w' ⟨rfl, rfl⟩
            go_wp2_with fail
            refine HSS.out.mono ?_
            rintro e w' ⟨rfl, rfl⟩
            go_wp2_with fail
            exact ⟨⟨t + 1, al, sf, v, by omega, by go_num, by omega, HT.out, HA.out, HB.out, HV.out.symm⟩, by simp [intOf]; omega⟩
        · have e3 : ((s[t].toNat : Int) == 47) = false := byte_ne (n := 47) (by omega) h47
          have hst := hst.trans (if_neg h47)
          rw [show (s[t] == 47) = false by rw [beq_eq_false_iff_ne]; exact h47, Bool.false_and] at HSS
          clear h47
          have HAT := Lib.hid (attr_any s t wr hs (HW.out _ HB.out) htl)
          have hbd := attr_bd (B s) t (by rw [HLE.out]; exact htl)
          rw [HLE.out] at hbd
          unfold arV val_at at HAT
          generalize attrT (B s) t = r at *
          obtain ⟨⟨an, av⟩, p, h⟩ := r
          simp only at hbd hst HAT
          obtain ⟨q1, q2, q3⟩ := hbd
          by_cases hz : h = 0
          · have d1 : ((h : Int) == 0) = true := by rw [hz]; rfl
            have HV := Lib.hid (hst.trans (if_pos hz))
            clear hst hz
            go_wp2_with fail
            refine HSK.out.mono ?_
            rintro e w' ⟨rfl, rfl⟩
            go_wp2_with fail
            refine HSS.out.mono ?_
            rintro e w' ⟨rfl, rfl⟩
            go_wp2_with fail
            refine HAT.out.mono ?_
            rintro e w2 ⟨rfl, b2⟩
            have HB2 := Lib.hid ((below_But b2 (But.refl _ _)) : But (fun k => k = tb) wr w2)
            have HB3 := Lib.hid (HB.out.trans HB2.out (fun _ h => .inl h))
            clear b2
            go_wp2_with fail
            go_ret2
            exact out_none HV.out rfl rfl (HB3.out.alloc _)
          · have d1 : ((h : Int) == 0) = false := by rw [beq_eq_false_iff_ne]; omega
            have HVV : Hid (restT (B s) k0 al0 sf0 = if h = 2 then some (addA al ⟨an, av⟩, sf, p) else restT (B s) p (addA al ⟨an, av⟩) sf) := hst.trans (if_neg hz)
            clear hst hz
            go_wp2_with fail
            refine HSK.out.mono ?_
            rintro e w' ⟨rfl, rfl⟩
            go_wp2_with fail
            refine HSS.out.mono ?_
            rintro e w' ⟨rfl, rfl⟩
            go_wp2_with fail
            refine HAT.out.mono ?_
            rintro e w2 ⟨rfl, b2⟩
            have HB2 := Lib.hid ((below_But b2 (But.refl _ _)) : But (fun k => k = tb) wr w2)
            have HB3 := Lib.hid (HB.out.trans HB2.out (fun _ h => .inl h))
            have HT2 := Lib.hid (HT.out.keep b2)
            have HA2 := Lib.hid (HA.out.keep b2)
            clear b2
            go_wp2_with fail
            have hY := Blk.new w2 82 #[.string an, .string av] (0, 0)
            have hba : Below w2.heap.size w2 (w2.alloc (.cells #[.string an, .string av] 82)) := (Below.refl _ _).alloc (Nat.le_refl _) _
            have hta := HT2.out.keep hba
            have haa := HA2.out.keep hba
            have hBa := HB3.out.alloc (.cells #[.string an, .string av] 82)
            obtain ⟨b8, hb8⟩ : ∃ b8, b8 = w2.heap.size := ⟨_, rfl⟩
            rw [← hb8] at hY
            rw [show w2.heap.size = b8 from hb8.symm]
            obtain ⟨wa, hwa⟩ : ∃ wa, wa = w2.alloc (.cells #[.string an, .string av] 82) := ⟨_, rfl⟩
            rw [← hwa] at hY hta haa hBa
            rw [show w2.alloc (.cells #[.string an, .string av] 82) = wa from hwa.symm]
            clear hwa hba hb8
            obtain ⟨A, c, rfl, hrd, hc0⟩ := haa.read0
            have hks : ∀ W, Below wa.heap.size wa W → (W.cell? ⟨tb, 2, none⟩ = some (.slice A al.length c) ∧ W.cell? ⟨b8, 0, none⟩ = some (.string an) ∧ W.cell? ⟨b8, 1, none⟩ = some (.string av)) := fun W hW => ⟨(hta.keep hW).cells.2.2.1, Blk.cell (hY.keep hW) 0, Blk.cell (hY.keep hW) 1⟩
            have KS := Lib.hid hks
            have HAD := Lib.hid (fun W (hW : Below wa.heap.size wa W) => add_at W A al.length c al ⟨an, av⟩ (hrd.keep hW) (by omega) hc0)
            have HTA := Lib.hid hta
            have HBA := Lib.hid hBa
            have HWX := Lib.hid (made_drew wa)
            clear hY hta haa hBa hks hrd hc0 HT2 HA2 HB2 HB3 HT HA
            unfold val_at at HAD
            obtain ⟨a2, y0, y1⟩ := KS.out wa (Below.refl _ _)
            go_region_with ((
              go_at_call 68
              refine (HAD.out _ HWX.out).mono ?_
              rintro e w3 ⟨v3, rfl, hrow, b3⟩
              obtain ⟨A3, c3', hv3, _⟩ := hrow.read
              have HRW := Lib.hid (hrow.le (Nat.zero_le _))
              subst hv3
              have hb33 := below_then HWX.out HWX.out.size b3
              have HWY := Lib.hid hb33
              obtain ⟨c0, c1, c2, c3, c4, f0, f1, f2, f3, f4⟩ := (HTA.out.keep hb33).cells
              clear hrow b3 hb33))
            all_goals
              have HT4 := Lib.hid ((HTA.out.keep HWY.out).setAttrs (.slice A3 (addA al ⟨an, av⟩).length c3'))
              have HA4 := Lib.hid (HRW.out.set (HTA.out.keep HWY.out) tok_ne 2 (.slice A3 (addA al ⟨an, av⟩).length c3'))
              have HB4 := Lib.hid ((HBA.out.trans (S1 := fun k => k = tb) (below_But HWY.out (But.refl _ _)) (fun _ h => .inl h)).setCell ⟨tb, 2, none⟩ (.slice A3 (addA al ⟨an, av⟩).length c3') (.inl rfl))
              have hal2 := addA_le al ⟨an, av⟩ k hal
              clear HTA HRW HBA HWY HWX KS HAD c0 c1 c2 c3 c4 f0 f1 f2 f3 f4 a2 y0 y1
              generalize (w3.setCell ⟨tb, 2, none⟩ (.slice A3 (addA al ⟨an, av⟩).length c3')) = w4 at *
              generalize addA al ⟨an, av⟩ = al2 at *
              by_cases hh2 : h = 2
              · have d2 : ((h : Int) == 2) = true := by rw [hh2]; rfl
                have HV := Lib.hid (HVV.out.trans (if_pos hh2))
                clear hh2
                go_wp2_with fail
                go_ret2
                exact out_some HV.out (by omega) rfl HB4.out HT4.out HA4.out
              · have d2 : ((h : Int) == 2) = false := by rw [beq_eq_false_iff_ne]; omega
                have HV := Lib.hid (HVV.out.trans (if_neg hh2))
                clear hh2
                go_wp2_with fail
                exact ⟨⟨p, al2, sf, _, by omega, rfl, by omega, HT4.out, HA4.out, HB4.out, HV.out.symm⟩, by simp [intOf]; omega⟩
    · rw [show (B s)[t]? = none by rw [List.getElem?_eq_none]; rw [HLE.out]; omega] at hst
      have HV := Lib.hid hst
      clear hst
      go_wp2_with fail
      refine HSK.out.mono ?_
      rintro e w' ⟨rfl, rfl⟩
      go_wp2_with fail
      go_ret2
      exact out_none HV.out rfl rfl HB.out
end Go.Proofs.Ytdjeajbinpgpiaa
