/- Joined texts: TagW, TagRd. -/
import Derived.Test.YtdjeajbinpgpiaaGreatJLexerTells14
import Derived.Deep.RegionHeld3
namespace Go.Proofs.YtdjeajbinpgpiaaGreat
open Go.RowKit

/-- A token's variable: its Kind, its name, its attributes, whether it closes itself. -/
def TokAt (w : World) (tb : Nat) (kd : Int) (nm : ByteArray) (v : Value) (sf : Bool) : Prop := Blk w tb 44 #[.int .i64 kd, .string nm, v, .bool sf, .string ⟨#[]⟩] (0, 0)
theorem TokAt.cells {w : World} {tb : Nat} {kd : Int} {nm : ByteArray} {v : Value} {sf : Bool} (h : TokAt w tb kd nm v sf) :
    w.cell? ⟨tb, 0, none⟩ = some (.int .i64 kd) ∧ w.cell? ⟨tb, 1, none⟩ = some (.string nm) ∧ w.cell? ⟨tb, 2, none⟩ = some v ∧ w.cell? ⟨tb, 3, none⟩ = some (.bool sf) ∧ w.cell? ⟨tb, 4, none⟩ = some (.string ⟨#[]⟩) ∧
    w.frozen? ⟨tb, 0, none⟩ = false ∧ w.frozen? ⟨tb, 1, none⟩ = false ∧ w.frozen? ⟨tb, 2, none⟩ = false ∧ w.frozen? ⟨tb, 3, none⟩ = false ∧ w.frozen? ⟨tb, 4, none⟩ = false :=
  ⟨Blk.cell h 0, Blk.cell h 1, Blk.cell h 2, Blk.cell h 3, Blk.cell h 4, Blk.frozen h 0 (.inr (Nat.zero_le _)), Blk.frozen h 1 (.inr (Nat.zero_le _)), Blk.frozen h 2 (.inr (Nat.zero_le _)), Blk.frozen h 3 (.inr (Nat.zero_le _)), Blk.frozen h 4 (.inr (Nat.zero_le _))⟩
theorem TokAt.keep {w w1 : World} {tb : Nat} {kd : Int} {nm : ByteArray} {v : Value} {sf : Bool} (h : TokAt w tb kd nm v sf) (hb : Below w.heap.size w w1) : TokAt w1 tb kd nm v sf := Blk.keep h hb
theorem TokAt.setSelf {w : World} {tb : Nat} {kd : Int} {nm : ByteArray} {v : Value} {sf : Bool} (h : TokAt w tb kd nm v sf) (b : Bool) : TokAt (w.setCell ⟨tb, 3, none⟩ (.bool b)) tb kd nm v b := Blk.set h 3 (.bool b)
theorem TokAt.setAttrs {w : World} {tb : Nat} {kd : Int} {nm : ByteArray} {v : Value} {sf : Bool} (h : TokAt w tb kd nm v sf) (v' : Value) : TokAt (w.setCell ⟨tb, 2, none⟩ v') tb kd nm v' sf := Blk.set h 2 v'
theorem tok_ne : 44 ≠ 71 := by decide

/-- What 'rest' leaves. -/
def RestOut (w : World) (s : ByteArray) (tb : Nat) (kd : Int) (nm : ByteArray) (r : Rt) (e : Ending) (w' : World) : Prop :=
  But (fun k => k = tb) w w' ∧ match r with
  | none => e = .returned (.tuple #[.int .i64 (s.size : Nat), .bool false])
  | some (al, sf, n) => e = .returned (.tuple #[.int .i64 (n : Nat), .bool true]) ∧ ∃ v, TokAt w' tb kd nm v sf ∧ RowA w' 0 v al
theorem out_none {w w' : World} {s : ByteArray} {tb : Nat} {kd : Int} {nm : ByteArray} {r : Rt} {n : Int} {b : Bool} (hr : r = none) (hn : n = (s.size : Nat)) (hb : b = false) (h : But (fun k => k = tb) w w') : RestOut w s tb kd nm r (.returned (.tuple #[.int .i64 n, .bool b])) w' := by
  subst hr hn hb; exact ⟨h, rfl⟩
theorem out_some {w w' : World} {s : ByteArray} {tb : Nat} {kd : Int} {nm : ByteArray} {r : Rt} {al : List At} {sf : Bool} {m : Nat} {n : Int} {b : Bool} {v : Value} (hr : r = some (al, sf, m)) (hn : n = (m : Nat)) (hb : b = true) (h : But (fun k => k = tb) w w') (ht : TokAt w' tb kd nm v sf) (ha : RowA w' 0 v al) : RestOut w s tb kd nm r (.returned (.tuple #[.int .i64 n, .bool b])) w' := by
  subst hr hn hb; exact ⟨h, rfl, v, ht, ha⟩
theorem starts_slash (s : ByteArray) (k : Nat) (h : k < s.size) : startsL (B s) [47, 62] k = (s[k] == 47 && decide ((B s)[k + 1]? = some 62)) := by
  unfold startsL Lib.occAt
  rw [drop_at s k h]
  have e : (B s).drop (k + 1) = (B s).drop (k + 1) := rfl
  cases hd : (B s).drop (k + 1) with
  | nil =>
    have h0 : (B s)[k + 1]? = none := by rw [← List.head?_drop, hd]; rfl
    show (47 == s[k] && false) = _
    rw [h0]; simp
  | cons c r =>
    have h0 : (B s)[k + 1]? = some c := by rw [← List.head?_drop, hd]; rfl
    show (47 == s[k] && (62 == c && List.isPrefixOf [] r)) = _
    rw [h0, show List.isPrefixOf [] r = true from rfl, Bool.and_true, Bool.eq_iff_iff]
    simp only [Bool.and_eq_true, beq_iff_eq, decide_eq_true_eq, Option.some.injEq]
    constructor
    · rintro ⟨a, b⟩; exact ⟨a.symm, b.symm⟩
    · rintro ⟨a, b⟩; exact ⟨a.symm, b.symm⟩
theorem addA_le (l : List At) (a : At) (n : Nat) (h : l.length ≤ n) : (addA l a).length ≤ n + 1 := by have := addA_len l a; omega

set_option maxHeartbeats 8000000 in
set_option maxRecDepth 100000 in
theorem rest_any (s : ByteArray) (k0 : Nat) (tb : Nat) (kd : Int) (nm : ByteArray) (v0 : Value) (al0 : List At) (sf0 : Bool) (w : World) (hs : s.size ≤ 65536) (hw : Lax w) (hk0 : k0 ≤ s.size)
    (ht : TokAt w tb kd nm v0 sf0) (ha : RowA w 0 v0 al0) (hal : al0.length ≤ k0) (hlx : tb ≠ 0) :
    Calls Tryz.prog 67 #[.string s, .int .i64 (k0 : Int), .pointer (some ⟨tb, 0, none⟩)] w (RestOut w s tb kd nm (restT (B s) k0 al0 sf0)) := by
  have hL : (B s).length = s.size := (size_B s).symm
  have HLE := Lib.hid hL
  have HW : Hid (∀ w', But (fun k => k = tb) w w' → Lax w') := by
    intro w' h
    obtain ⟨m, hm⟩ := hw
    have hlt := World.block_lt_of_cell? w _ hm
    refine ⟨m, ?_⟩
    rw [← hm]
    unfold World.cell?
    rw [h.block _ hlt (fun e => hlx e.symm)]
  have HT := Lib.hid ht
  have HA := Lib.hid ha
  clear hL hw ht ha hlx
  go_enter Tryz.func67, Tryz.ntmps67
  go_wp2_with fail
  go_loopw [1] (fun av wr => ∃ (k : Nat) (al : List At) (sf : Bool) (v : Value), k ≤ s.size ∧ av = .int .i64 k ∧ al.length ≤ k ∧ TokAt wr tb kd nm v sf ∧ RowA wr 0 v al ∧ But (fun k => k = tb) w wr ∧ Hid (restT (B s) k al sf = restT (B s) k0 al0 sf0)) (fun av _ => s.size + 1 - (intOf av).toNat)
  case atStart => exact ⟨k0, al0, sf0, v0, hk0, rfl, hal, HT.out, HA.out, But.refl _ _, rfl⟩
  case round =>
    obtain ⟨k, al, sf, v, hk, rfl, hal, ht, ha, hb, HR⟩ := hrel
    have HT := Lib.hid ht
    have HA := Lib.hid ha
    have HB := Lib.hid hb
    clear ht ha hb
    have HSK := Lib.hid (skipK s k wr hs hk)
    have hsb := skip_bd (B s) k (by rw [HLE.out]; exact hk)
    rw [HLE.out] at hsb
    have hst := restT_step (B s) k al sf (by rw [HLE.out]; exact hk)
    rw [HR.out] at hst
    generalize skipL (B s) k = t at *
    obtain ⟨h1, h2⟩ := hsb
    by_cases htl : t < s.size
    · rw [B_at s t htl] at hst
      simp only at hst
      by_cases h62 : s[t] = 62
      · have e1 : ((s[t].toNat : Int) == 62) = true := by rw [h62]; rfl
        have HV := Lib.hid (hst.trans (if_pos h62))
        clear hst h62
        go_wp2_with fail
        refine HSK.out.mono ?_
        rintro e w' ⟨rfl, rfl⟩
        go_wp2_with fail
        go_ret2
        exact out_some HV.out (by omega) rfl HB.out HT.out HA.out
      · have e1 : ((s[t].toNat : Int) == 62) = false := byte_ne (n := 62) (by omega) h62
        have hst := hst.trans (if_neg h62)
        clear h62
        have HSS := Lib.hid (startsK s t ⟨#[47, 62]⟩ wr hs h2)
        rw [show B ⟨#[47, 62]⟩ = [47, 62] from rfl, starts_slash s t htl] at HSS
        by_cases h47 : s[t] = 47
        · have e3 : ((s[t].toNat : Int) == 47) = true := by rw [h47]; rfl
          have hst := hst.trans (if_pos h47)
          rw [show (s[t] == 47) = true by rw [h47]; rfl, Bool.true_and] at HSS
          clear h47
          by_cases hn : (B s)[t + 1]? = some 62
          · have HV := Lib.hid (hst.trans (if_pos hn))
            rw [decide_eq_true hn] at HSS
            have hts := HT.out.cells
            obtain ⟨c0, c1, c2, c3, c4, f0, f1, f2, f3, f4⟩ := hts
            have hlt2 : t + 1 < s.size := by have := lt_of_at hn; rw [HLE.out] at this; exact this
            clear hst hn
            go_wp2_with fail
            refine HSK.out.mono ?_
            rintro e w' ⟨rfl, rfl⟩
            go_wp2_with fail
            refine HSS.out.mono ?_
            rintro e w' ⟨rfl, rfl⟩
            go_wp2_with fail
            go_ret2
            exact out_some HV.out (by omega) rfl (HB.out.setCell _ _ (.inl rfl)) (HT.out.setSelf true) (HA.out.set HT.out tok_ne 3 _)
          · have HV := Lib.hid (hst.trans (if_neg hn))
            rw [decide_eq_false hn] at HSS
            clear hst hn
            go_wp2_with fail
            refine HSK.out.mono ?_
            rintro e w' ⟨rfl, rfl⟩
            go_wp2_with fail
            refine HSS.out.mono ?_
            rintro e w' ⟨rfl, rfl⟩
            go_wp2_with fail
            exact ⟨⟨t + 1, al, sf, v, by omega, by go_num, by omega, HT.out, HA.out, HB.out, HV.out.symm⟩, by simp [intOf]; omega⟩
        · have e3 : ((s[t].toNat : Int) == 47) = false := byte_ne (n := 47) (by omega) h47
          have hst := hst.trans (if_neg h47)
          rw [show (s[t] == 47) = false by rw [beq_eq_false_iff_ne]; exact h47, Bool.false_and] at HSS
          clear h47
          have HAT := Lib.hid (attr_any s t wr hs (HW.out _ HB.out) htl)
          have hbd := attr_bd (B s) t (by rw [HLE.out]; exact htl)
          rw [HLE.out] at hbd
          unfold arV val_at at HAT
          generalize attrT (B s) t = r at *
          obtain ⟨⟨an, av⟩, p, h⟩ := r
          simp only at hbd hst HAT
          obtain ⟨q1, q2, q3⟩ := hbd
          by_cases hz : h = 0
          · have d1 : ((h : Int) == 0) = true := by rw [hz]; rfl
            have HV := Lib.hid (hst.trans (if_pos hz))
            clear hst hz
            go_wp2_with fail
            refine HSK.out.mono ?_
            rintro e w' ⟨rfl, rfl⟩
            go_wp2_with fail
            refine HSS.out.mono ?_
            rintro e w' ⟨rfl, rfl⟩
            go_wp2_with fail
            refine HAT.out.mono ?_
            rintro e w2 ⟨rfl, b2⟩
            have HB2 := Lib.hid ((below_But b2 (But.refl _ _)) : But (fun k => k = tb) wr w2)
            have HB3 := Lib.hid (HB.out.trans HB2.out (fun _ h => .inl h))
            clear b2
            go_wp2_with fail
            go_ret2
            exact out_none HV.out rfl rfl (HB3.out.alloc _)
          · have d1 : ((h : Int) == 0) = false := by rw [beq_eq_false_iff_ne]; omega
            have HVV : Hid (restT (B s) k0 al0 sf0 = if h = 2 then some (addA al ⟨an, av⟩, sf, p) else restT (B s) p (addA al ⟨an, av⟩) sf) := hst.trans (if_neg hz)
            clear hst hz
            go_wp2_with fail
            refine HSK.out.mono ?_
            rintro e w' ⟨rfl, rfl⟩
            go_wp2_with fail
            refine HSS.out.mono ?_
            rintro e w' ⟨rfl, rfl⟩
            go_wp2_with fail
            refine HAT.out.mono ?_
            rintro e w2 ⟨rfl, b2⟩
            have HB2 := Lib.hid ((below_But b2 (But.refl _ _)) : But (fun k => k = tb) wr w2)
            have HB3 := Lib.hid (HB.out.trans HB2.out (fun _ h => .inl h))
            have HT2 := Lib.hid (HT.out.keep b2)
            have HA2 := Lib.hid (HA.out.keep b2)
            clear b2
            go_wp2_with fail
            have hY := Blk.new w2 71 #[.string an, .string av] (0, 0)
            have hba : Below w2.heap.size w2 (w2.alloc (.cells #[.string an, .string av] 71)) := (Below.refl _ _).alloc (Nat.le_refl _) _
            have hta := HT2.out.keep hba
            have haa := HA2.out.keep hba
            have hBa := HB3.out.alloc (.cells #[.string an, .string av] 71)
            obtain ⟨b8, hb8⟩ : ∃ b8, b8 = w2.heap.size := ⟨_, rfl⟩
            rw [← hb8] at hY
            rw [show w2.heap.size = b8 from hb8.symm]
            obtain ⟨wa, hwa⟩ : ∃ wa, wa = w2.alloc (.cells #[.string an, .string av] 71) := ⟨_, rfl⟩
            rw [← hwa] at hY hta haa hBa
            rw [show w2.alloc (.cells #[.string an, .string av] 71) = wa from hwa.symm]
            clear hwa hba hb8
            obtain ⟨A, c, rfl, hrd, hc0⟩ := haa.read0
            have hks : ∀ W, Below wa.heap.size wa W → (W.cell? ⟨tb, 2, none⟩ = some (.slice A al.length c) ∧ W.cell? ⟨b8, 0, none⟩ = some (.string an) ∧ W.cell? ⟨b8, 1, none⟩ = some (.string av)) := fun W hW => ⟨(hta.keep hW).cells.2.2.1, Blk.cell (hY.keep hW) 0, Blk.cell (hY.keep hW) 1⟩
            have KS := Lib.hid hks
            have HAD := Lib.hid (fun W (hW : Below wa.heap.size wa W) => add_at W A al.length c al ⟨an, av⟩ (hrd.keep hW) (by omega) hc0)
            have HTA := Lib.hid hta
            have HBA := Lib.hid hBa
            have HWX := Lib.hid (made_drew wa)
            clear hY hta haa hBa hks hrd hc0 HT2 HA2 HB2 HB3 HT HA
            unfold val_at at HAD
            obtain ⟨a2, y0, y1⟩ := KS.out wa (Below.refl _ _)
            go_region_with ((
              go_at_call 96
              refine (HAD.out _ HWX.out).mono ?_
              rintro e w3 ⟨v3, rfl, hrow, b3⟩
              obtain ⟨A3, c3', hv3, _⟩ := hrow.read
              have HRW := Lib.hid (hrow.le (Nat.zero_le _))
              subst hv3
              have hb33 := below_then HWX.out HWX.out.size b3
              have HWY := Lib.hid hb33
              obtain ⟨c0, c1, c2, c3, c4, f0, f1, f2, f3, f4⟩ := (HTA.out.keep hb33).cells
              clear hrow b3 hb33))
            all_goals
              have HT4 := Lib.hid ((HTA.out.keep HWY.out).setAttrs (.slice A3 (addA al ⟨an, av⟩).length c3'))
              have HA4 := Lib.hid (HRW.out.set (HTA.out.keep HWY.out) tok_ne 2 (.slice A3 (addA al ⟨an, av⟩).length c3'))
              have HB4 := Lib.hid ((HBA.out.trans (S1 := fun k => k = tb) (below_But HWY.out (But.refl _ _)) (fun _ h => .inl h)).setCell ⟨tb, 2, none⟩ (.slice A3 (addA al ⟨an, av⟩).length c3') (.inl rfl))
              have hal2 := addA_le al ⟨an, av⟩ k hal
              clear HTA HRW HBA HWY HWX KS HAD c0 c1 c2 c3 c4 f0 f1 f2 f3 f4 a2 y0 y1
              generalize (w3.setCell ⟨tb, 2, none⟩ (.slice A3 (addA al ⟨an, av⟩).length c3')) = w4 at *
              generalize addA al ⟨an, av⟩ = al2 at *
              by_cases hh2 : h = 2
              · have d2 : ((h : Int) == 2) = true := by rw [hh2]; rfl
                have HV := Lib.hid (HVV.out.trans (if_pos hh2))
                clear hh2
                go_wp2_with fail
                go_ret2
                exact out_some HV.out (by omega) rfl HB4.out HT4.out HA4.out
              · have d2 : ((h : Int) == 2) = false := by rw [beq_eq_false_iff_ne]; omega
                have HV := Lib.hid (HVV.out.trans (if_neg hh2))
                clear hh2
                go_wp2_with fail
                exact ⟨⟨p, al2, sf, _, by omega, rfl, by omega, HT4.out, HA4.out, HB4.out, HV.out.symm⟩, by simp [intOf]; omega⟩
    · rw [show (B s)[t]? = none by rw [List.getElem?_eq_none]; rw [HLE.out]; omega] at hst
      have HV := Lib.hid hst
      clear hst
      go_wp2_with fail
      refine HSK.out.mono ?_
      rintro e w' ⟨rfl, rfl⟩
      go_wp2_with fail
      go_ret2
      exact out_none HV.out rfl rfl HB.out
end Go.Proofs.YtdjeajbinpgpiaaGreat

namespace Go.Proofs.YtdjeajbinpgpiaaGreat
open Go.RowKit

def tkV (t : Tg) (A : Option Addr) (c : Nat) : Value := .agg #[.int .i64 t.kind, .string (S t.name), .slice A t.attrs.length c, .bool t.self, .string ⟨#[]⟩]
/-- What Read answers. -/
def ReadOut (w : World) (r : Tr) (e : Ending) (w' : World) : Prop := ∃ A c, e = .returned (.tuple #[tkV r.1 A c, .int .i64 r.2.1, .bool r.2.2]) ∧ RdA w' A r.1.attrs.length r.1.attrs ∧ ((A = none → c = 0) ∧ RowA w' 0 (.slice A r.1.attrs.length c) r.1.attrs) ∧ Below w.heap.size w w'
theorem out_no {w w' : World} {r : Tr} {n : Int} {b : Bool} (hr : r = (noTg, n, false)) (hb : b = false) (h : Below w.heap.size w w') : ReadOut w r (.returned (.tuple #[.agg #[.int .i64 0, .string ⟨#[]⟩, .slice none 0 0, .bool false, .string ⟨#[]⟩], .int .i64 n, .bool b])) w' := by
  subst hr hb; exact ⟨none, 0, rfl, RdA.nil' _, ⟨fun _ => rfl, RowA.nil _ _⟩, h⟩
theorem out_tag {w w' : World} {r : Tr} {kd n : Int} {nm : ByteArray} {v : Value} {al : List At} {sf b : Bool} (hr : r = (⟨kd, B nm, al, sf⟩, n, true)) (hb : b = true) (ha : RowA w' 0 v al) (h : Below w.heap.size w w') : ReadOut w r (.returned (.tuple #[.agg #[.int .i64 kd, .string nm, v, .bool sf, .string ⟨#[]⟩], .int .i64 n, .bool b])) w' := by
  subst hr hb
  obtain ⟨A, c, rfl, hrd, hc⟩ := ha.read0
  exact ⟨A, c, by unfold tkV; rw [S_B], hrd, ⟨hc, ha⟩, h⟩
theorem nameK (s : ByteArray) (k : Nat) (w : World) (hs : s.size ≤ 65536) (hk : k ≤ s.size) :
    Calls Tryz.prog 58 #[.string s, .int .i64 (k : Int)] w fun e w' => e = .returned (.int .i64 (nameL (B s) k : Nat)) ∧ w = w' := by
  have H := Lib.hid (fun w => untilK s k ⟨#[9, 10, 12, 13, 32, 47, 62]⟩ w hs hk)
  rw [show B ⟨#[9, 10, 12, 13, 32, 47, 62]⟩ = [9, 10, 12, 13, 32, 47, 62] from rfl] at H
  go_enter Tryz.func58, Tryz.ntmps58
  go_wp2_with fail
  refine (H.out _).mono ?_
  rintro e w' ⟨rfl, rfl⟩
  go_wp2_with fail
  go_ret
  exact ⟨rfl, rfl⟩
theorem prefK (s : ByteArray) (k : Nat) (w : World) :
    Calls Tryz.prog 64 #[.string (s.extract k s.size), .string ⟨#[60, 47]⟩] w fun e w' => e = .returned (.bool (endsAt (B s) k)) ∧ w = w' := by
  have := hasPrefix_any (s.extract k s.size) ⟨#[60, 47]⟩ w
  rw [B_drop] at this
  exact this
theorem ends_head {l : List UInt8} {k : Nat} (h : endsAt l k = true) : (l.drop k).head? = some 60 := by
  unfold endsAt startsL Lib.occAt at h
  cases hd : l.drop k with
  | nil => rw [hd] at h; cases h
  | cons a r =>
    rw [hd] at h
    have h : (60 == a && List.isPrefixOf [47] r) = true := h
    rw [Bool.and_eq_true, beq_iff_eq] at h
    rw [← h.1]; rfl
theorem ends_len {l : List UInt8} {k : Nat} (hk : k ≤ l.length) (h : endsAt l k = true) : k + 2 ≤ l.length := starts_fits (sub := [60, 47]) hk h
def tok0 : Array Value := #[.int .i64 0, .string ⟨#[]⟩, .slice none 0 0, .bool false, .string ⟨#[]⟩]
def tokK (kd : Int) (nm : ByteArray) : Array Value := #[.int .i64 kd, .string nm, .slice none 0 0, .bool false, .string ⟨#[]⟩]

section
variable (s : ByteArray) (w : World) (hs : s.size ≤ 65536)
include hs
set_option maxHeartbeats 4000000 in
set_option maxRecDepth 100000 in
/-- No tag begins there. -/
theorem tread_no (at_ : Int) (h : at_ < 0 ∨ (s.size : Int) ≤ at_ ∨ ∃ k : Nat, ∃ h : k < s.size, at_ = k ∧ s[k] ≠ 60) :
    Calls Tryz.prog 41 #[.string s, .int .i64 at_] w (ReadOut w (readT (B s) at_)) := by
  have HR : Hid (readT (B s) at_ = (noTg, at_, false)) := by
    show _ = _
    unfold readT
    rcases h with h | h | ⟨k, hk, rfl, hne⟩
    · rw [if_pos h]
    · by_cases h0 : at_ < 0
      · rw [if_pos h0]
      · rw [if_neg h0, if_neg]
        rw [List.drop_eq_nil_of_le (by rw [← size_B]; omega)]
        simp
    · rw [if_neg (by omega), if_neg]
      rw [Int.toNat_natCast, head_at hk]
      intro e; exact hne (Option.some.inj e)
  have hb0 : Below w.heap.size w ((w.alloc (.cells #[.int .i64 0, .string ⟨#[]⟩, .slice none 0 0, .bool false, .string ⟨#[]⟩] 44)).alloc (.cells #[.int .i64 2, .string ⟨#[]⟩, .slice none 0 0, .bool false, .string ⟨#[]⟩] 44)) := ((Below.refl _ _).alloc (Nat.le_refl _) _).alloc (by simp) _
  have HB := Lib.hid hb0
  clear hb0
  rcases h with h | h | ⟨k, hk, rfl, hne⟩
  · go_enter Tryz.func41, Tryz.ntmps41
    go_wp2_with fail
    refine bodyPost_ret (v := .tuple #[.agg #[.int .i64 0, .string ⟨#[]⟩, .slice none 0 0, .bool false, .string ⟨#[]⟩], .int .i64 at_, .bool false]) (by simp [results, Tryz.results41, go_sem]) rfl
      (out_no HR.out rfl HB.out)
  · have h0 : 0 ≤ at_ := by omega
    go_enter Tryz.func41, Tryz.ntmps41
    go_wp2_with fail
    refine bodyPost_ret (v := .tuple #[.agg #[.int .i64 0, .string ⟨#[]⟩, .slice none 0 0, .bool false, .string ⟨#[]⟩], .int .i64 at_, .bool false]) (by simp [results, Tryz.results41, go_sem]) rfl
      (out_no HR.out rfl HB.out)
  · have e1 : ((s[k].toNat : Int) != 60) = true := by
      show (!((s[k].toNat : Int) == ((60 : Nat) : Int))) = true
      rw [byte_ne (n := 60) (by decide) hne]; rfl
    have hen : endsAt (B s) k = false := by
      cases he : endsAt (B s) k with
      | false => rfl
      | true => have := ends_head he; rw [head_at hk] at this; exact absurd (Option.some.inj this) hne
    have HP := Lib.hid (fun w => prefK s k w)
    rw [hen] at HP
    clear hne hen
    go_enter Tryz.func41, Tryz.ntmps41
    go_wp2_with fail
    refine (HP.out _).mono ?_
    rintro e w' ⟨rfl, rfl⟩
    go_wp2_with fail
    refine bodyPost_ret (v := .tuple #[.agg #[.int .i64 0, .string ⟨#[]⟩, .slice none 0 0, .bool false, .string ⟨#[]⟩], .int .i64 (k : Int), .bool false]) (by simp [results, Tryz.results41, go_sem]) rfl
      (out_no HR.out rfl HB.out)
set_option maxHeartbeats 8000000 in
set_option maxRecDepth 100000 in
theorem tread_true (k : Nat) (hk : k < s.size) (h60 : s[k] = 60) (hen : endsAt (B s) k = true) (hw : Lax w) :
    Calls Tryz.prog 41 #[.string s, .int .i64 (k : Int)] w (ReadOut w (readT (B s) (k : Int))) := by
  have hL : (B s).length = s.size := (size_B s).symm
  have hr0 : readT (B s) (k : Int) = tagT (B s) k := by
    unfold readT
    rw [if_neg (by omega), if_pos (by rw [Int.toNat_natCast, head_at hk, h60]), Int.toNat_natCast]
  have hft : fromT (B s) k = k + 2 := by unfold fromT; rw [hen]; rfl
  have htt : tagT (B s) k = if ((B s)[k + 2]?).any letterB = true then
      match restT (B s) (nameL (B s) (k + 2)) [] false with
      | none => (noTg, (s.size : Int), false)
      | some (al, sf, n) => ((⟨3, lowL (pieceL (B s) (k + 2) (nameL (B s) (k + 2))), [], false⟩ : Tg), (n : Int), true)
    else (noTg, (k : Int), false) := by
    unfold tagT
    rw [hft, hen, hL]
    rfl
  have hr := hr0.trans htt
  have HL := Lib.hid (fun w => letter_at s (k + 2) w)
  rw [show ((k + 2 : Nat) : Int) = (k : Int) + 2 by omega] at HL
  have HP := Lib.hid (fun w => prefK s k w)
  rw [hen] at HP
  have e1 : ((s[k].toNat : Int) != 60) = false := by rw [h60]; rfl
  have hba : Below w.heap.size w (w.alloc (.cells #[.int .i64 0, .string ⟨#[]⟩, .slice none 0 0, .bool false, .string ⟨#[]⟩] 44)) := (Below.refl _ _).alloc (Nat.le_refl _) _
  have hbb : Below w.heap.size w ((w.alloc (.cells #[.int .i64 0, .string ⟨#[]⟩, .slice none 0 0, .bool false, .string ⟨#[]⟩] 44)).alloc (.cells #[.int .i64 3, .string ⟨#[]⟩, .slice none 0 0, .bool false, .string ⟨#[]⟩] 44)) := hba.alloc (by simp) _
  have HB0 := Lib.hid hbb
  have HW := Lib.hid hw
  have HLE := Lib.hid hL
  clear hr0 hft htt hen hw hba hbb hL
  cases hlt : ((B s)[k + 2]?).any letterB with
  | false =>
    rw [hlt] at HL hr
    have HR : Hid (readT (B s) (k : Int) = (noTg, (k : Int), false)) := hr
    clear hlt hr
    go_enter Tryz.func41, Tryz.ntmps41
    go_wp2_with fail
    refine (HP.out _).mono ?_
    rintro e w' ⟨rfl, rfl⟩
    go_wp2_with fail
    refine (HL.out _).mono ?_
    rintro e w' ⟨rfl, rfl⟩
    go_wp2_with fail
    refine bodyPost_ret (v := .tuple #[.agg #[.int .i64 0, .string ⟨#[]⟩, .slice none 0 0, .bool false, .string ⟨#[]⟩], .int .i64 (k : Int), .bool false]) (by simp [results, Tryz.results41, go_sem]) rfl
      (out_no HR.out rfl HB0.out)
  | true =>
    rw [hlt] at HL hr
    have hrm : readT (B s) (k : Int) = match restT (B s) (nameL (B s) (k + 2)) [] false with
      | none => (noTg, (s.size : Int), false)
      | some (al, sf, n) => ((⟨3, lowL (pieceL (B s) (k + 2) (nameL (B s) (k + 2))), [], false⟩ : Tg), (n : Int), true) := hr
    clear hr
    have hfl : k + 2 < s.size := by
      cases h0 : (B s)[k + 2]? with
      | none => rw [h0] at hlt; cases hlt
      | some c => have := lt_of_at h0; rw [HLE.out] at this; exact this
    have HNA := Lib.hid (fun w => nameK s (k + 2) w hs (by omega))
    rw [show ((k + 2 : Nat) : Int) = (k : Int) + 2 by omega] at HNA
    have hnb := until_bd (B s) [9, 10, 12, 13, 32, 47, 62] (k + 2) (by rw [HLE.out]; omega)
    rw [HLE.out, show untilL (B s) [9, 10, 12, 13, 32, 47, 62] (k + 2) = nameL (B s) (k + 2) from rfl] at hnb
    generalize nameL (B s) (k + 2) = t at *
    obtain ⟨h1, h2⟩ := hnb
    have HLO := Lib.hid (fun w => lowK s (k + 2) t w hs)
    have hbn : B (S (lowL (pieceL (B s) (k + 2) t))) = lowL (pieceL (B s) (k + 2) t) := B_S _
    have HBN := Lib.hid hbn
    rw [← hbn] at hrm
    generalize S (lowL (pieceL (B s) (k + 2) t)) = nm at *
    clear hlt hbn
    have HRR := Lib.hid hrm
    clear hrm
    have hb4 := (Blk.new w 44 #[.int .i64 0, .string ⟨#[]⟩, .slice none 0 0, .bool false, .string ⟨#[]⟩] (0, 0)).alloc (.cells #[.int .i64 3, .string ⟨#[]⟩, .slice none 0 0, .bool false, .string ⟨#[]⟩] 44)
    have hb7 := Blk.new (w.alloc (.cells #[.int .i64 0, .string ⟨#[]⟩, .slice none 0 0, .bool false, .string ⟨#[]⟩] 44)) 44 #[.int .i64 3, .string ⟨#[]⟩, .slice none 0 0, .bool false, .string ⟨#[]⟩] (0, 0)
    rw [show (w.alloc (.cells #[.int .i64 0, .string ⟨#[]⟩, .slice none 0 0, .bool false, .string ⟨#[]⟩] 44)).heap.size = w.heap.size + 1 by simp] at hb7
    have H4 := Lib.hid hb4
    have H7 := Lib.hid hb7
    clear hb4 hb7
    go_enter Tryz.func41, Tryz.ntmps41
    go_wp2_with fail
    refine (HP.out _).mono ?_
    rintro e w' ⟨rfl, rfl⟩
    go_wp2_with fail
    refine (HL.out _).mono ?_
    rintro e w' ⟨rfl, rfl⟩
    go_wp2_with fail
    refine (HNA.out _).mono ?_
    rintro e w' ⟨rfl, rfl⟩
    go_wp2_with fail
    refine (HLO.out _).mono ?_
    rintro e w2 ⟨rfl, b2⟩
    have hb2 := below_then HB0.out HB0.out.size b2
    have h42 := H4.out.keep b2
    have h72 := H7.out.keep b2
    obtain ⟨c0, c1, c2, c3, c4, f0, f1, f2, f3, f4⟩ := TokAt.cells (kd := 3) (nm := ⟨#[]⟩) (v := .slice none 0 0) (sf := false) h72
    have H43 : Hid (TokAt (w2.setCell ⟨w.heap.size + 1, 1, none⟩ (.string nm)) w.heap.size 0 ⟨#[]⟩ (.slice none 0 0) false) := h42.far (by show w.heap.size ≠ w.heap.size + 1; omega) _
    have H73 : Hid (TokAt (w2.setCell ⟨w.heap.size + 1, 1, none⟩ (.string nm)) (w.heap.size + 1) 3 nm (.slice none 0 0) false) := h72.set 1 (.string nm)
    have HB3 := Lib.hid (hb2.setCell (p := ⟨w.heap.size + 1, 1, none⟩) (Nat.le_succ _) (.string nm))
    clear b2 hb2 h42 h72
    go_wp2_with fail
    have hlx : w.heap.size + 1 ≠ 0 := by
      obtain ⟨m, hm⟩ := HW.out
      have := World.block_lt_of_cell? w _ hm
      intro e
      have e2 : w.heap.size + 1 = 0 := e
      have this : 0 < w.heap.size := this
      omega
    refine (rest_any s t (w.heap.size + 1) 3 nm (.slice none 0 0) [] false (w2.setCell ⟨w.heap.size + 1, 1, none⟩ (.string nm)) hs (HW.out.below HB3.out) h2 H73.out (RowA.nil _ _) (Nat.zero_le _) hlx).mono ?_
    rintro e w5 ⟨hbut, hro⟩
    have h45 : TokAt w5 w.heap.size 0 ⟨#[]⟩ (.slice none 0 0) false := Blk.but H43.out hbut (by show ¬ w.heap.size = w.heap.size + 1; omega)
    have hb5 : Below w.heap.size w w5 := HB3.out.trans (hbut.below (B := w.heap.size) (fun j hj => by show w.heap.size ≤ j; have hj : j = w.heap.size + 1 := hj; omega) HB3.out.size)
    have HB5 := Lib.hid hb5
    have hne : w.heap.size + 1 ≠ w.heap.size := by omega
    have hne2 : w.heap.size ≠ w.heap.size + 1 := by omega
    obtain ⟨z0, z1, z2, z3, z4, g0, g1, g2, g3, g4⟩ := h45.cells
    have H45 := Lib.hid h45
    cases hrt : restT (B s) t [] false with
    | none =>
      rw [hrt] at hro
      have he : e = .returned (.tuple #[.int .i64 (s.size : Nat), .bool false]) := hro
      subst he
      have HR : Hid (readT (B s) (k : Int) = (noTg, (s.size : Int), false)) := HRR.out.trans (by rw [hrt])
      clear hro hrt hbut hb5 h45
      go_wp2_with fail
      refine bodyPost_ret (v := .tuple #[.agg #[.int .i64 0, .string ⟨#[]⟩, .slice none 0 0, .bool false, .string ⟨#[]⟩], .int .i64 (s.size : Int), .bool false]) (by simp [results, Tryz.results41, go_sem, z0, z1, z2, z3, z4]) rfl
        (out_no HR.out rfl ?_)
      exact ((((HB5.out.setCell (p := ⟨w.heap.size, 0, none⟩) (Nat.le_refl _) _).setCell (p := ⟨w.heap.size, 1, none⟩) (Nat.le_refl _) _).setCell (p := ⟨w.heap.size, 2, none⟩) (Nat.le_refl _) _).setCell (p := ⟨w.heap.size, 3, none⟩) (Nat.le_refl _) _).setCell (p := ⟨w.heap.size, 4, none⟩) (Nat.le_refl _) _
    | some q =>
      obtain ⟨al, sf, n⟩ := q
      rw [hrt] at hro
      obtain ⟨he, v, htk, hrw⟩ : e = .returned (.tuple #[.int .i64 (n : Nat), .bool true]) ∧ ∃ v, TokAt w5 (w.heap.size + 1) 3 nm v sf ∧ RowA w5 0 v al := hro
      subst he
      obtain ⟨A, c, rfl, _, _⟩ := hrw.read0
      obtain ⟨y0, y1, y2, y3, y4, i0, i1, i2, i3, i4⟩ := htk.cells
      have HRW := Lib.hid hrw
      have HR : Hid (readT (B s) (k : Int) = (⟨3, B nm, [], false⟩, (n : Int), true)) := HRR.out.trans (by rw [hrt])
      clear hrt hbut hb5 h45 htk hrw
      go_wp2_with fail
      refine bodyPost_ret (v := .tuple #[.agg #[.int .i64 3, .string nm, .slice none 0 0, .bool false, .string ⟨#[]⟩], .int .i64 (n : Int), .bool true]) (by simp [results, Tryz.results41, go_sem, z0, z1, z2, z3, z4]) rfl
        (out_tag HR.out rfl (RowA.nil _ _) ?_)
      exact ((((((HB5.out.setCell (p := ⟨w.heap.size + 1, 2, none⟩) (Nat.le_succ _) _).setCell (p := ⟨w.heap.size + 1, 3, none⟩) (Nat.le_succ _) _).setCell (p := ⟨w.heap.size, 0, none⟩) (Nat.le_refl _) _).setCell (p := ⟨w.heap.size, 1, none⟩) (Nat.le_refl _) _).setCell (p := ⟨w.heap.size, 2, none⟩) (Nat.le_refl _) _).setCell (p := ⟨w.heap.size, 3, none⟩) (Nat.le_refl _) _).setCell (p := ⟨w.heap.size, 4, none⟩) (Nat.le_refl _) _
set_option maxHeartbeats 8000000 in
set_option maxRecDepth 100000 in
theorem tread_false (k : Nat) (hk : k < s.size) (h60 : s[k] = 60) (hen : endsAt (B s) k = false) (hw : Lax w) :
    Calls Tryz.prog 41 #[.string s, .int .i64 (k : Int)] w (ReadOut w (readT (B s) (k : Int))) := by
  have hL : (B s).length = s.size := (size_B s).symm
  have hr0 : readT (B s) (k : Int) = tagT (B s) k := by
    unfold readT
    rw [if_neg (by omega), if_pos (by rw [Int.toNat_natCast, head_at hk, h60]), Int.toNat_natCast]
  have hft : fromT (B s) k = k + 1 := by unfold fromT; rw [hen]; rfl
  have htt : tagT (B s) k = if ((B s)[k + 1]?).any letterB = true then
      match restT (B s) (nameL (B s) (k + 1)) [] false with
      | none => (noTg, (s.size : Int), false)
      | some (al, sf, n) => ((⟨2, lowL (pieceL (B s) (k + 1) (nameL (B s) (k + 1))), al, sf⟩ : Tg), (n : Int), true)
    else (noTg, (k : Int), false) := by
    unfold tagT
    rw [hft, hen, hL]
    rfl
  have hr := hr0.trans htt
  have HL := Lib.hid (fun w => letter_at s (k + 1) w)
  rw [show ((k + 1 : Nat) : Int) = (k : Int) + 1 by omega] at HL
  have HP := Lib.hid (fun w => prefK s k w)
  rw [hen] at HP
  have e1 : ((s[k].toNat : Int) != 60) = false := by rw [h60]; rfl
  have hba : Below w.heap.size w (w.alloc (.cells #[.int .i64 0, .string ⟨#[]⟩, .slice none 0 0, .bool false, .string ⟨#[]⟩] 44)) := (Below.refl _ _).alloc (Nat.le_refl _) _
  have hbb : Below w.heap.size w ((w.alloc (.cells #[.int .i64 0, .string ⟨#[]⟩, .slice none 0 0, .bool false, .string ⟨#[]⟩] 44)).alloc (.cells #[.int .i64 2, .string ⟨#[]⟩, .slice none 0 0, .bool false, .string ⟨#[]⟩] 44)) := hba.alloc (by simp) _
  have HB0 := Lib.hid hbb
  have HW := Lib.hid hw
  have HLE := Lib.hid hL
  clear hr0 hft htt hen hw hba hbb hL
  cases hlt : ((B s)[k + 1]?).any letterB with
  | false =>
    rw [hlt] at HL hr
    have HR : Hid (readT (B s) (k : Int) = (noTg, (k : Int), false)) := hr
    clear hlt hr
    go_enter Tryz.func41, Tryz.ntmps41
    go_wp2_with fail
    refine (HP.out _).mono ?_
    rintro e w' ⟨rfl, rfl⟩
    go_wp2_with fail
    refine (HL.out _).mono ?_
    rintro e w' ⟨rfl, rfl⟩
    go_wp2_with fail
    refine bodyPost_ret (v := .tuple #[.agg #[.int .i64 0, .string ⟨#[]⟩, .slice none 0 0, .bool false, .string ⟨#[]⟩], .int .i64 (k : Int), .bool false]) (by simp [results, Tryz.results41, go_sem]) rfl
      (out_no HR.out rfl HB0.out)
  | true =>
    rw [hlt] at HL hr
    have hrm : readT (B s) (k : Int) = match restT (B s) (nameL (B s) (k + 1)) [] false with
      | none => (noTg, (s.size : Int), false)
      | some (al, sf, n) => ((⟨2, lowL (pieceL (B s) (k + 1) (nameL (B s) (k + 1))), al, sf⟩ : Tg), (n : Int), true) := hr
    clear hr
    have hfl : k + 1 < s.size := by
      cases h0 : (B s)[k + 1]? with
      | none => rw [h0] at hlt; cases hlt
      | some c => have := lt_of_at h0; rw [HLE.out] at this; exact this
    have HNA := Lib.hid (fun w => nameK s (k + 1) w hs (by omega))
    rw [show ((k + 1 : Nat) : Int) = (k : Int) + 1 by omega] at HNA
    have hnb := until_bd (B s) [9, 10, 12, 13, 32, 47, 62] (k + 1) (by rw [HLE.out]; omega)
    rw [HLE.out, show untilL (B s) [9, 10, 12, 13, 32, 47, 62] (k + 1) = nameL (B s) (k + 1) from rfl] at hnb
    generalize nameL (B s) (k + 1) = t at *
    obtain ⟨h1, h2⟩ := hnb
    have HLO := Lib.hid (fun w => lowK s (k + 1) t w hs)
    have hbn : B (S (lowL (pieceL (B s) (k + 1) t))) = lowL (pieceL (B s) (k + 1) t) := B_S _
    have HBN := Lib.hid hbn
    rw [← hbn] at hrm
    generalize S (lowL (pieceL (B s) (k + 1) t)) = nm at *
    clear hlt hbn
    have HRR := Lib.hid hrm
    clear hrm
    have hb4 := (Blk.new w 44 #[.int .i64 0, .string ⟨#[]⟩, .slice none 0 0, .bool false, .string ⟨#[]⟩] (0, 0)).alloc (.cells #[.int .i64 2, .string ⟨#[]⟩, .slice none 0 0, .bool false, .string ⟨#[]⟩] 44)
    have hb7 := Blk.new (w.alloc (.cells #[.int .i64 0, .string ⟨#[]⟩, .slice none 0 0, .bool false, .string ⟨#[]⟩] 44)) 44 #[.int .i64 2, .string ⟨#[]⟩, .slice none 0 0, .bool false, .string ⟨#[]⟩] (0, 0)
    rw [show (w.alloc (.cells #[.int .i64 0, .string ⟨#[]⟩, .slice none 0 0, .bool false, .string ⟨#[]⟩] 44)).heap.size = w.heap.size + 1 by simp] at hb7
    have H4 := Lib.hid hb4
    have H7 := Lib.hid hb7
    clear hb4 hb7
    go_enter Tryz.func41, Tryz.ntmps41
    go_wp2_with fail
    refine (HP.out _).mono ?_
    rintro e w' ⟨rfl, rfl⟩
    go_wp2_with fail
    refine (HL.out _).mono ?_
    rintro e w' ⟨rfl, rfl⟩
    go_wp2_with fail
    refine (HNA.out _).mono ?_
    rintro e w' ⟨rfl, rfl⟩
    go_wp2_with fail
    refine (HLO.out _).mono ?_
    rintro e w2 ⟨rfl, b2⟩
    have hb2 := below_then HB0.out HB0.out.size b2
    have h42 := H4.out.keep b2
    have h72 := H7.out.keep b2
    obtain ⟨c0, c1, c2, c3, c4, f0, f1, f2, f3, f4⟩ := TokAt.cells (kd := 2) (nm := ⟨#[]⟩) (v := .slice none 0 0) (sf := false) h72
    have H43 : Hid (TokAt (w2.setCell ⟨w.heap.size + 1, 1, none⟩ (.string nm)) w.heap.size 0 ⟨#[]⟩ (.slice none 0 0) false) := h42.far (by show w.heap.size ≠ w.heap.size + 1; omega) _
    have H73 : Hid (TokAt (w2.setCell ⟨w.heap.size + 1, 1, none⟩ (.string nm)) (w.heap.size + 1) 2 nm (.slice none 0 0) false) := h72.set 1 (.string nm)
    have HB3 := Lib.hid (hb2.setCell (p := ⟨w.heap.size + 1, 1, none⟩) (Nat.le_succ _) (.string nm))
    clear b2 hb2 h42 h72
    go_wp2_with fail
    have hlx : w.heap.size + 1 ≠ 0 := by
      obtain ⟨m, hm⟩ := HW.out
      have := World.block_lt_of_cell? w _ hm
      intro e
      have e2 : w.heap.size + 1 = 0 := e
      have this : 0 < w.heap.size := this
      omega
    refine (rest_any s t (w.heap.size + 1) 2 nm (.slice none 0 0) [] false (w2.setCell ⟨w.heap.size + 1, 1, none⟩ (.string nm)) hs (HW.out.below HB3.out) h2 H73.out (RowA.nil _ _) (Nat.zero_le _) hlx).mono ?_
    rintro e w5 ⟨hbut, hro⟩
    have h45 : TokAt w5 w.heap.size 0 ⟨#[]⟩ (.slice none 0 0) false := Blk.but H43.out hbut (by show ¬ w.heap.size = w.heap.size + 1; omega)
    have hb5 : Below w.heap.size w w5 := HB3.out.trans (hbut.below (B := w.heap.size) (fun j hj => by show w.heap.size ≤ j; have hj : j = w.heap.size + 1 := hj; omega) HB3.out.size)
    have HB5 := Lib.hid hb5
    have hne : w.heap.size + 1 ≠ w.heap.size := by omega
    have hne2 : w.heap.size ≠ w.heap.size + 1 := by omega
    obtain ⟨z0, z1, z2, z3, z4, g0, g1, g2, g3, g4⟩ := h45.cells
    have H45 := Lib.hid h45
    cases hrt : restT (B s) t [] false with
    | none =>
      rw [hrt] at hro
      have he : e = .returned (.tuple #[.int .i64 (s.size : Nat), .bool false]) := hro
      subst he
      have HR : Hid (readT (B s) (k : Int) = (noTg, (s.size : Int), false)) := HRR.out.trans (by rw [hrt])
      clear hro hrt hbut hb5 h45
      go_wp2_with fail
      refine bodyPost_ret (v := .tuple #[.agg #[.int .i64 0, .string ⟨#[]⟩, .slice none 0 0, .bool false, .string ⟨#[]⟩], .int .i64 (s.size : Int), .bool false]) (by simp [results, Tryz.results41, go_sem, z0, z1, z2, z3, z4]) rfl
        (out_no HR.out rfl ?_)
      exact ((((HB5.out.setCell (p := ⟨w.heap.size, 0, none⟩) (Nat.le_refl _) _).setCell (p := ⟨w.heap.size, 1, none⟩) (Nat.le_refl _) _).setCell (p := ⟨w.heap.size, 2, none⟩) (Nat.le_refl _) _).setCell (p := ⟨w.heap.size, 3, none⟩) (Nat.le_refl _) _).setCell (p := ⟨w.heap.size, 4, none⟩) (Nat.le_refl _) _
    | some q =>
      obtain ⟨al, sf, n⟩ := q
      rw [hrt] at hro
      obtain ⟨he, v, htk, hrw⟩ : e = .returned (.tuple #[.int .i64 (n : Nat), .bool true]) ∧ ∃ v, TokAt w5 (w.heap.size + 1) 2 nm v sf ∧ RowA w5 0 v al := hro
      subst he
      obtain ⟨A, c, rfl, _, _⟩ := hrw.read0
      obtain ⟨y0, y1, y2, y3, y4, i0, i1, i2, i3, i4⟩ := htk.cells
      have HRW := Lib.hid hrw
      have HR : Hid (readT (B s) (k : Int) = (⟨2, B nm, al, sf⟩, (n : Int), true)) := HRR.out.trans (by rw [hrt])
      clear hrt hbut hb5 h45 htk hrw
      go_wp2_with fail
      refine bodyPost_ret (v := .tuple #[.agg #[.int .i64 2, .string nm, .slice A al.length c, .bool sf, .string ⟨#[]⟩], .int .i64 (n : Int), .bool true]) (by simp [results, Tryz.results41, go_sem, z0, z1, z2, z3, z4]) rfl
        (out_tag HR.out rfl ?_ ?_)
      · exact ((((HRW.out.set H45.out tok_ne 0 _).set (H45.out.set 0 _) tok_ne 1 _).set ((H45.out.set 0 _).set 1 _) tok_ne 2 _).set (((H45.out.set 0 _).set 1 _).set 2 _) tok_ne 3 _).set ((((H45.out.set 0 _).set 1 _).set 2 _).set 3 _) tok_ne 4 _
      · exact ((((HB5.out.setCell (p := ⟨w.heap.size, 0, none⟩) (Nat.le_refl _) _).setCell (p := ⟨w.heap.size, 1, none⟩) (Nat.le_refl _) _).setCell (p := ⟨w.heap.size, 2, none⟩) (Nat.le_refl _) _).setCell (p := ⟨w.heap.size, 3, none⟩) (Nat.le_refl _) _).setCell (p := ⟨w.heap.size, 4, none⟩) (Nat.le_refl _) _
theorem tread_any (at_ : Int) (hw : Lax w) :
    Calls Tryz.prog 41 #[.string s, .int .i64 at_] w (ReadOut w (readT (B s) at_)) := by
  by_cases h0 : at_ < 0
  · exact tread_no s w hs at_ (.inl h0)
  · obtain ⟨k, rfl⟩ : ∃ k : Nat, at_ = (k : Int) := ⟨at_.toNat, by omega⟩
    by_cases hk : k < s.size
    · by_cases h60 : s[k] = 60
      · cases hen : endsAt (B s) k with
        | true => exact tread_true s w hs k hk h60 hen hw
        | false => exact tread_false s w hs k hk h60 hen hw
      · exact tread_no s w hs _ (.inr (.inr ⟨k, hk, rfl, h60⟩))
    · exact tread_no s w hs _ (.inr (.inl (by omega)))
end
end Go.Proofs.YtdjeajbinpgpiaaGreat
