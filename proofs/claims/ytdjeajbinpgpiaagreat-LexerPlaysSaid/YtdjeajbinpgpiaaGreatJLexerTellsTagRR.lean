/- arbourref11.Read. -/
import Derived.Test.YtdjeajbinpgpiaaGreatJLexerTells21
import Derived.Test.YtdjeajbinpgpiaaGreatJLexerTellsTagRA
import Derived.Test.YtdjeajbinpgpiaaGreatJLexerTells15
namespace Go.Proofs.YtdjeajbinpgpiaaGreat
open Go.RowKit

theorem below_tok (w : World) (cs : Array Value) : Below w.heap.size w (w.alloc (.cells cs 44)) := (Below.refl _ _).alloc (Nat.le_refl _) _
set_option maxHeartbeats 2000000 in
theorem only_end (nm tx : ByteArray) (A : Option Addr) (n c : Nat) (sf : Bool) (w : World) :
    Calls Tryz.prog 78 #[.agg #[.int .i64 3, .string nm, .slice A n c, .bool sf, .string tx]] w fun e w' => e = .returned (.agg #[.int .i64 3, .string nm, .slice none 0 0, .bool false, .string ⟨#[]⟩]) ∧ Below w.heap.size w w' := by
  have HB := Lib.hid (((below_tok w #[.int .i64 3, .string nm, .slice A n c, .bool sf, .string tx]).alloc (by simp) (.cells #[.int .i64 3, .string nm, .slice none 0 0, .bool false, .string ⟨#[]⟩] 44)))
  go_enter Tryz.func78, Tryz.ntmps78
  go_wp2_with fail
  refine bodyPost_ret (v := .agg #[.int .i64 3, .string nm, .slice none 0 0, .bool false, .string ⟨#[]⟩]) (by simp [results, Tryz.results78, go_sem]) rfl ⟨rfl, HB.out⟩
set_option maxHeartbeats 2000000 in
theorem only_start (nm tx : ByteArray) (A : Option Addr) (n c : Nat) (sf : Bool) (w : World) :
    Calls Tryz.prog 78 #[.agg #[.int .i64 2, .string nm, .slice A n c, .bool sf, .string tx]] w fun e w' => e = .returned (.agg #[.int .i64 2, .string nm, .slice A n c, .bool sf, .string tx]) ∧ Below w.heap.size w w' := by
  have HB := Lib.hid (((below_tok w #[.int .i64 2, .string nm, .slice A n c, .bool sf, .string tx]).alloc (by simp) (.cells #[.int .i64 2, .string nm, .slice A n c, .bool sf, .string tx] 44)))
  go_enter Tryz.func78, Tryz.ntmps78
  go_wp2_with fail
  refine bodyPost_ret (v := .agg #[.int .i64 2, .string nm, .slice A n c, .bool sf, .string tx]) (by simp [results, Tryz.results78, go_sem]) rfl ⟨rfl, HB.out⟩
theorem rnameK (s : ByteArray) (k : Nat) (w : World) (hs : s.size ≤ 65536) (hk : k ≤ s.size) :
    Calls Tryz.prog 77 #[.string s, .int .i64 (k : Int)] w fun e w' => e = .returned (.int .i64 (nameL (B s) k : Nat)) ∧ w = w' := by
  have H := Lib.hid (fun w => runtilK s k ⟨#[9, 10, 12, 13, 32, 47, 62]⟩ w hs hk (by decide))
  rw [show B ⟨#[9, 10, 12, 13, 32, 47, 62]⟩ = [9, 10, 12, 13, 32, 47, 62] from rfl] at H
  go_enter Tryz.func77, Tryz.ntmps77
  go_wp2_with fail
  refine (H.out _).mono ?_
  rintro e w' ⟨rfl, rfl⟩
  go_wp2_with fail
  go_ret
  exact ⟨rfl, rfl⟩

section
variable (s : ByteArray) (w : World) (hs : s.size ≤ 65536)
include hs
set_option maxHeartbeats 8000000 in
set_option maxRecDepth 100000 in
/-- No tag begins there. -/
theorem rtread_no (at_ : Int) (h : at_ < 0 ∨ (s.size : Int) ≤ at_ ∨ ∃ k : Nat, ∃ h : k < s.size, at_ = k ∧ s[k] ≠ 60) :
    Calls Tryz.prog 46 #[.string s, .int .i64 at_] w (ReadOut w (readT (B s) at_)) := by
  have HR : Hid (readT (B s) at_ = (noTg, at_, false)) := by
    show _ = _
    unfold readT
    rcases h with h | h | ⟨k, hk, rfl, hne⟩
    · rw [if_pos h]
    · by_cases h0 : at_ < 0
      · rw [if_pos h0]
      · rw [if_neg h0, if_neg]
        rw [List.drop_eq_nil_of_le (by rw [← size_B]; omega)]
        simp
    · rw [if_neg (by omega), if_neg]
      rw [Int.toNat_natCast, head_at hk]
      intro e; exact hne (Option.some.inj e)
  have HST := Lib.hid (fun w => rstarts_any s ⟨#[60, 47]⟩ at_ w (by omega) (by decide))
  have hb0 := (below_tok w #[.int .i64 0, .string ⟨#[]⟩, .slice none 0 0, .bool false, .string ⟨#[]⟩]).alloc (by simp) (.cells #[.int .i64 2, .string ⟨#[]⟩, .slice none 0 0, .bool false, .string ⟨#[]⟩] 44)
  have hb1 := (below_tok w #[.int .i64 0, .string ⟨#[]⟩, .slice none 0 0, .bool false, .string ⟨#[]⟩]).alloc (by simp) (.cells #[.int .i64 3, .string ⟨#[]⟩, .slice none 0 0, .bool false, .string ⟨#[]⟩] 44)
  have HB := Lib.hid hb0
  have HB1 := Lib.hid hb1
  clear hb0 hb1
  generalize startsL (B s) (B ⟨#[60, 47]⟩) (clampN at_ s.size) = b at *
  rcases h with h | h | ⟨k, hk, rfl, hne⟩
  · cases b
    all_goals
      go_enter Tryz.func46, Tryz.ntmps46
      go_wp2_with fail
      refine (HST.out _).mono ?_
      rintro e w' ⟨rfl, rfl⟩
      go_wp2_with fail
      refine bodyPost_ret (v := .tuple #[.agg #[.int .i64 0, .string ⟨#[]⟩, .slice none 0 0, .bool false, .string ⟨#[]⟩], .int .i64 at_, .bool false]) (by simp [results, Tryz.results46, go_sem]) rfl
        (out_no HR.out rfl (by first | exact HB.out | exact HB1.out))
  · have h0 : 0 ≤ at_ := by omega
    cases b
    all_goals
      go_enter Tryz.func46, Tryz.ntmps46
      go_wp2_with fail
      refine (HST.out _).mono ?_
      rintro e w' ⟨rfl, rfl⟩
      go_wp2_with fail
      refine bodyPost_ret (v := .tuple #[.agg #[.int .i64 0, .string ⟨#[]⟩, .slice none 0 0, .bool false, .string ⟨#[]⟩], .int .i64 at_, .bool false]) (by simp [results, Tryz.results46, go_sem]) rfl
        (out_no HR.out rfl (by first | exact HB.out | exact HB1.out))
  · have e1 : ((s[k].toNat : Int) != 60) = true := by
      show (!((s[k].toNat : Int) == ((60 : Nat) : Int))) = true
      rw [byte_ne (n := 60) (by decide) hne]; rfl
    clear hne
    cases b
    all_goals
      go_enter Tryz.func46, Tryz.ntmps46
      go_wp2_with fail
      refine (HST.out _).mono ?_
      rintro e w' ⟨rfl, rfl⟩
      go_wp2_with fail
      refine bodyPost_ret (v := .tuple #[.agg #[.int .i64 0, .string ⟨#[]⟩, .slice none 0 0, .bool false, .string ⟨#[]⟩], .int .i64 (k : Int), .bool false]) (by simp [results, Tryz.results46, go_sem]) rfl
        (out_no HR.out rfl (by first | exact HB.out | exact HB1.out))
set_option maxHeartbeats 16000000 in
set_option maxRecDepth 100000 in
theorem rtread_true (k : Nat) (hk : k < s.size) (h60 : s[k] = 60) (hen : endsAt (B s) k = true) :
    Calls Tryz.prog 46 #[.string s, .int .i64 (k : Int)] w (ReadOut w (readT (B s) (k : Int))) := by
  have hL : (B s).length = s.size := (size_B s).symm
  have hr0 : readT (B s) (k : Int) = tagT (B s) k := by
    unfold readT
    rw [if_neg (by omega), if_pos (by rw [Int.toNat_natCast, head_at hk, h60]), Int.toNat_natCast]
  have hft : fromT (B s) k = k + 2 := by unfold fromT; rw [hen]; rfl
  have htt : tagT (B s) k = if ((B s)[k + 2]?).any letterB = true then
      match restT (B s) (nameL (B s) (k + 2)) [] false with
      | none => (noTg, (s.size : Int), false)
      | some (al, sf, n) => ((⟨3, lowL (pieceL (B s) (k + 2) (nameL (B s) (k + 2))), [], false⟩ : Tg), (n : Int), true)
    else (noTg, (k : Int), false) := by
    unfold tagT
    rw [hft, hen, hL]
    rfl
  have hr := hr0.trans htt
  have HP := Lib.hid (fun w => rstartsK s k ⟨#[60, 47]⟩ w hs (by omega) (by decide))
  rw [show B ⟨#[60, 47]⟩ = [60, 47] from rfl, show startsL (B s) [60, 47] k = endsAt (B s) k from rfl, hen] at HP
  have e1 : ((s[k].toNat : Int) != 60) = false := by rw [h60]; rfl
  have hba : Below w.heap.size w (w.alloc (.cells #[.int .i64 0, .string ⟨#[]⟩, .slice none 0 0, .bool false, .string ⟨#[]⟩] 44)) := (Below.refl _ _).alloc (Nat.le_refl _) _
  have hbb : Below w.heap.size w ((w.alloc (.cells #[.int .i64 0, .string ⟨#[]⟩, .slice none 0 0, .bool false, .string ⟨#[]⟩] 44)).alloc (.cells #[.int .i64 3, .string ⟨#[]⟩, .slice none 0 0, .bool false, .string ⟨#[]⟩] 44)) := hba.alloc (by simp) _
  have HB0 := Lib.hid hbb
  have HLE := Lib.hid hL
  clear hr0 hft htt hen hba hbb hL
  by_cases hfl : k + 2 < s.size
  · have hat := B_at s (k + 2) hfl
    rw [hat] at hr
    have HL := Lib.hid (fun w => rletter10 s[k + 2] w)
    cases hlt : letterB s[k + 2] with
    | false =>
      rw [hlt] at HL
      have HR : Hid (readT (B s) (k : Int) = (noTg, (k : Int), false)) := hr.trans (if_neg (by show ¬ letterB s[k + 2] = true; rw [hlt]; decide))
      clear hlt hr hat
      go_enter Tryz.func46, Tryz.ntmps46
      go_wp2_with fail
      refine (HP.out _).mono ?_
      rintro e w' ⟨rfl, rfl⟩
      go_wp2_with fail
      refine (HL.out _).mono ?_
      rintro e w' ⟨rfl, rfl⟩
      go_wp2_with fail
      refine bodyPost_ret (v := .tuple #[.agg #[.int .i64 0, .string ⟨#[]⟩, .slice none 0 0, .bool false, .string ⟨#[]⟩], .int .i64 (k : Int), .bool false]) (by simp [results, Tryz.results46, go_sem]) rfl
        (out_no HR.out rfl HB0.out)
    | true =>
      rw [hlt] at HL
      have hrm := hr.trans (if_pos (show letterB s[k + 2] = true from hlt))
      clear hr hlt hat
      have HNA := Lib.hid (fun w => rnameK s (k + 2) w hs (by omega))
      rw [show ((k + 2 : Nat) : Int) = (k : Int) + 2 by omega] at HNA
      have hnb := until_bd (B s) [9, 10, 12, 13, 32, 47, 62] (k + 2) (by rw [HLE.out]; omega)
      rw [HLE.out, show untilL (B s) [9, 10, 12, 13, 32, 47, 62] (k + 2) = nameL (B s) (k + 2) from rfl] at hnb
      generalize nameL (B s) (k + 2) = t0 at *
      obtain ⟨h1, h2⟩ := hnb
      have HLO := Lib.hid (fun w => rlowK s (k + 2) t0 w hs)
      have hbn : B (S (lowL (pieceL (B s) (k + 2) t0))) = lowL (pieceL (B s) (k + 2) t0) := B_S _
      rw [← hbn] at hrm
      generalize S (lowL (pieceL (B s) (k + 2) t0)) = nm at *
      clear hbn
      have HRR := Lib.hid hrm
      clear hrm
      have hb4 := (Blk.new w 44 #[.int .i64 0, .string ⟨#[]⟩, .slice none 0 0, .bool false, .string ⟨#[]⟩] (0, 0)).alloc (.cells #[.int .i64 3, .string ⟨#[]⟩, .slice none 0 0, .bool false, .string ⟨#[]⟩] 44)
      have hb7 := Blk.new (w.alloc (.cells #[.int .i64 0, .string ⟨#[]⟩, .slice none 0 0, .bool false, .string ⟨#[]⟩] 44)) 44 #[.int .i64 3, .string ⟨#[]⟩, .slice none 0 0, .bool false, .string ⟨#[]⟩] (0, 0)
      rw [show (w.alloc (.cells #[.int .i64 0, .string ⟨#[]⟩, .slice none 0 0, .bool false, .string ⟨#[]⟩] 44)).heap.size = w.heap.size + 1 by simp] at hb7
      have H4 := Lib.hid hb4
      have H7 := Lib.hid hb7
      clear hb4 hb7
      go_enter Tryz.func46, Tryz.ntmps46
      go_wp2_with fail
      refine (HP.out _).mono ?_
      rintro e w' ⟨rfl, rfl⟩
      go_wp2_with fail
      refine (HL.out _).mono ?_
      rintro e w' ⟨rfl, rfl⟩
      go_wp2_with fail
      refine (HNA.out _).mono ?_
      rintro e w' ⟨rfl, rfl⟩
      go_wp2_with fail
      refine (HLO.out _).mono ?_
      rintro e w2 ⟨rfl, b2⟩
      have hb2 := below_then HB0.out HB0.out.size b2
      have h42 := H4.out.keep b2
      have h72 := H7.out.keep b2
      obtain ⟨c0, c1, c2, c3, c4, f0, f1, f2, f3, f4⟩ := TokAt.cells (kd := 3) (nm := ⟨#[]⟩) (v := .slice none 0 0) (sf := false) h72
      have H43 : Hid (TokAt (w2.setCell ⟨w.heap.size + 1, 1, none⟩ (.string nm)) w.heap.size 0 ⟨#[]⟩ (.slice none 0 0) false) := h42.far (by show w.heap.size ≠ w.heap.size + 1; omega) _
      have H73 : Hid (TokAt (w2.setCell ⟨w.heap.size + 1, 1, none⟩ (.string nm)) (w.heap.size + 1) 3 nm (.slice none 0 0) false) := h72.set 1 (.string nm)
      have HB3 := Lib.hid (hb2.setCell (p := ⟨w.heap.size + 1, 1, none⟩) (Nat.le_succ _) (.string nm))
      clear b2 hb2 h42 h72
      go_wp2_with fail
      clear c0 c1 c2 c3 c4 f0 f1 f2 f3 f4
      have hne : w.heap.size + 1 ≠ w.heap.size := by omega
      have hne2 : w.heap.size ≠ w.heap.size + 1 := by omega
      go_loopw [9] (fun av wr => ∃ (q : Nat) (al : List At) (sf : Bool) (v : Value), q ≤ s.size ∧ av = .int .i64 q ∧ al.length ≤ q ∧ TokAt wr (w.heap.size + 1) 3 nm v sf ∧ TokAt wr w.heap.size 0 ⟨#[]⟩ (.slice none 0 0) false ∧ RowA wr 0 v al ∧ Below w.heap.size w wr ∧ Hid (restT (B s) q al sf = restT (B s) t0 [] false)) (fun av _ => s.size + 1 - (intOf av).toNat)
      case atStart => exact ⟨t0, [], false, .slice none 0 0, h2, rfl, Nat.zero_le _, H73.out, H43.out, RowA.nil _ _, HB3.out, rfl⟩
      case round =>
        obtain ⟨q, al, sf, v, hq, rfl, hal, ht, h4, ha, hb, HRE⟩ := hrel
        obtain ⟨A, c, rfl, hrd, hc0⟩ := ha.read0
        have HTK := Lib.hid ht
        have H4W := Lib.hid h4
        have HRW := Lib.hid ha
        have HBW := Lib.hid hb
        have HRD := Lib.hid hrd
        have HC0 := Lib.hid hc0
        obtain ⟨y0, y1, y2, y3, y4, i0, i1, i2, i3, i4⟩ := ht.cells
        obtain ⟨z0, z1, z2, z3, z4, g0, g1, g2, g3, g4⟩ := h4.cells
        clear ht h4 ha hb hrd hc0 H43 H73 HB3
        have HSK := Lib.hid (rskipK s q wr hs hq)
        have hsb := skip_bd (B s) q (by rw [HLE.out]; exact hq)
        rw [HLE.out] at hsb
        have hst0 := restT_step (B s) q al sf (by rw [HLE.out]; exact hq)
        rw [HRE.out] at hst0
        generalize skipL (B s) q = t at *
        obtain ⟨q1, q2⟩ := hsb
        by_cases hts : t = s.size
        · have hn : restT (B s) t0 [] false = none := by
            rw [hst0, show (B s)[t]? = none by rw [List.getElem?_eq_none]; rw [HLE.out]; omega]
          have HRF : Hid (readT (B s) (k : Int) = (noTg, (t : Int), false)) := HRR.out.trans (by rw [hn, hts])
          have d0 : ((t : Int) == (s.size : Int)) = true := by rw [hts]; exact beq_self_eq_true _
          clear hn hst0 hts
          go_wp2_with fail
          refine HSK.out.mono ?_
          rintro e w' ⟨rfl, rfl⟩
          go_wp2_with fail
          refine bodyPost_ret (v := .tuple #[.agg #[.int .i64 0, .string ⟨#[]⟩, .slice none 0 0, .bool false, .string ⟨#[]⟩], .int .i64 (t : Int), .bool false]) (by simp [results, Tryz.results46, go_sem, z0, z1, z2, z3, z4]) rfl
            (out_no HRF.out rfl ?_)
          exact ((((HBW.out.setCell (p := ⟨w.heap.size, 0, none⟩) (Nat.le_refl _) _).setCell (p := ⟨w.heap.size, 1, none⟩) (Nat.le_refl _) _).setCell (p := ⟨w.heap.size, 2, none⟩) (Nat.le_refl _) _).setCell (p := ⟨w.heap.size, 3, none⟩) (Nat.le_refl _) _).setCell (p := ⟨w.heap.size, 4, none⟩) (Nat.le_refl _) _
        · have htl : t < s.size := by omega
          have d0 : ((t : Int) == (s.size : Int)) = false := by rw [beq_eq_false_iff_ne]; omega
          rw [B_at s t htl] at hst0
          simp only at hst0
          clear hts
          by_cases h62 : s[t] = 62
          · have e2 : ((s[t].toNat : Int) == 62) = true := by rw [h62]; rfl
            have hn := hst0.trans (if_pos h62)
            have HRF : Hid (readT (B s) (k : Int) = (⟨3, B nm, [], false⟩, (t : Int) + 1, true)) := HRR.out.trans (by rw [hn]; simp)
            clear hn hst0 h62
            go_wp2_with fail
            refine HSK.out.mono ?_
            rintro e w' ⟨rfl, rfl⟩
            go_wp2_with fail
            refine (only_end nm ⟨#[]⟩ _ _ _ _ _).mono ?_
            rintro e w6 ⟨rfl, b6⟩
            have h46 := H4W.out.keep b6
            obtain ⟨z0, z1, z2, z3, z4, g0, g1, g2, g3, g4⟩ := h46.cells
            have HB6 := Lib.hid (below_then HBW.out HBW.out.size b6)
            clear b6 h46
            go_wp2_with fail
            refine bodyPost_ret (v := .tuple #[.agg #[.int .i64 3, .string nm, .slice none 0 0, .bool false, .string ⟨#[]⟩], .int .i64 ((t : Int) + 1), .bool true]) (by simp [results, Tryz.results46, go_sem, z0, z1, z2, z3, z4]) rfl
              (out_tag HRF.out rfl (RowA.nil _ _) ?_)
            exact ((((HB6.out.setCell (p := ⟨w.heap.size, 0, none⟩) (Nat.le_refl _) _).setCell (p := ⟨w.heap.size, 1, none⟩) (Nat.le_refl _) _).setCell (p := ⟨w.heap.size, 2, none⟩) (Nat.le_refl _) _).setCell (p := ⟨w.heap.size, 3, none⟩) (Nat.le_refl _) _).setCell (p := ⟨w.heap.size, 4, none⟩) (Nat.le_refl _) _
          · have e2 : ((s[t].toNat : Int) == 62) = false := byte_ne (n := 62) (by decide) h62
            have hst1 := hst0.trans (if_neg h62)
            have HSS := Lib.hid (rstartsK s t ⟨#[47, 62]⟩ wr hs q2 (by decide))
            rw [show B ⟨#[47, 62]⟩ = [47, 62] from rfl, starts_slash s t htl] at HSS
            clear h62 hst0
            by_cases h47 : s[t] = 47
            · have e3 : ((s[t].toNat : Int) == 47) = true := by rw [h47]; rfl
              have hst2 := hst1.trans (if_pos h47)
              rw [show (s[t] == 47) = true by rw [h47]; rfl, Bool.true_and] at HSS
              clear h47 hst1
              by_cases hn : (B s)[t + 1]? = some 62
              · have hn2 := hst2.trans (if_pos hn)
                have HRF : Hid (readT (B s) (k : Int) = (⟨3, B nm, [], false⟩, (t : Int) + 2, true)) := HRR.out.trans (by rw [hn2]; simp)
                rw [decide_eq_true hn] at HSS
                have hlt2 : t + 1 < s.size := by have := lt_of_at hn; rw [HLE.out] at this; exact this
                have HRW0 := HRW
                have HRW := Lib.hid (HRW0.out.set HTK.out tok_ne 3 (.bool true))
                have H4W0 := H4W
                have H4W : Hid (TokAt (wr.setCell ⟨w.heap.size + 1, 3, none⟩ (.bool true)) w.heap.size 0 ⟨#[]⟩ (.slice none 0 0) false) := Blk.far H4W0.out (by show w.heap.size ≠ w.heap.size + 1; omega) _
                have HBW0 := HBW
                have HBW := Lib.hid (HBW0.out.setCell (p := ⟨w.heap.size + 1, 3, none⟩) (Nat.le_succ _) (.bool true))
                clear hn hn2 hst2
                go_wp2_with fail
                refine HSK.out.mono ?_
                rintro e w' ⟨rfl, rfl⟩
                go_wp2_with fail
                refine HSS.out.mono ?_
                rintro e w' ⟨rfl, rfl⟩
                go_wp2_with fail
                refine (only_end nm ⟨#[]⟩ _ _ _ _ _).mono ?_
                rintro e w6 ⟨rfl, b6⟩
                have h46 := H4W.out.keep b6
                obtain ⟨z0, z1, z2, z3, z4, g0, g1, g2, g3, g4⟩ := h46.cells
                have HB6 := Lib.hid (below_then HBW.out HBW.out.size b6)
                clear b6 h46
                go_wp2_with fail
                refine bodyPost_ret (v := .tuple #[.agg #[.int .i64 3, .string nm, .slice none 0 0, .bool false, .string ⟨#[]⟩], .int .i64 ((t : Int) + 2), .bool true]) (by simp [results, Tryz.results46, go_sem, z0, z1, z2, z3, z4]) rfl
                  (out_tag HRF.out rfl (RowA.nil _ _) ?_)
                exact ((((HB6.out.setCell (p := ⟨w.heap.size, 0, none⟩) (Nat.le_refl _) _).setCell (p := ⟨w.heap.size, 1, none⟩) (Nat.le_refl _) _).setCell (p := ⟨w.heap.size, 2, none⟩) (Nat.le_refl _) _).setCell (p := ⟨w.heap.size, 3, none⟩) (Nat.le_refl _) _).setCell (p := ⟨w.heap.size, 4, none⟩) (Nat.le_refl _) _
              · have HV := Lib.hid (hst2.trans (if_neg hn))
                rw [decide_eq_false hn] at HSS
                clear hn hst2
                go_wp2_with fail
                refine HSK.out.mono ?_
                rintro e w' ⟨rfl, rfl⟩
                go_wp2_with fail
                refine HSS.out.mono ?_
                rintro e w' ⟨rfl, rfl⟩
                go_wp2_with fail
                exact ⟨⟨t + 1, al, sf, _, by omega, by go_num, by omega, HTK.out, H4W.out, HRW.out, HBW.out, HV.out.symm⟩, by simp [intOf]; omega⟩
            · have e3 : ((s[t].toNat : Int) == 47) = false := byte_ne (n := 47) (by decide) h47
              have hst2 := hst1.trans (if_neg h47)
              rw [show (s[t] == 47) = false by rw [beq_eq_false_iff_ne]; exact h47, Bool.false_and] at HSS
              clear h47 hst1
              have HAT := Lib.hid (rattr_any s t wr hs htl)
              have hbd := attr_bd (B s) t (by rw [HLE.out]; exact htl)
              rw [HLE.out] at hbd
              unfold arV val_at at HAT
              generalize attrT (B s) t = r at *
              obtain ⟨⟨an, av⟩, p, h⟩ := r
              simp only at hbd hst2 HAT
              obtain ⟨r1, r2, r3⟩ := hbd
              by_cases hz : h = 0
              · have d1 : ((h : Int) == 0) = true := by rw [hz]; rfl
                have hn := hst2.trans (if_pos hz)
                have HRF : Hid (readT (B s) (k : Int) = (noTg, (s.size : Int), false)) := HRR.out.trans (by rw [hn])
                clear hst2 hz hn y0 y1 y2 y3 y4 i0 i1 i2 i3 i4 z0 z1 z2 z3 z4 g0 g1 g2 g3 g4
                go_wp2_with fail
                refine HSK.out.mono ?_
                rintro e w' ⟨rfl, rfl⟩
                go_wp2_with fail
                refine HSS.out.mono ?_
                rintro e w' ⟨rfl, rfl⟩
                go_wp2_with fail
                refine HAT.out.mono ?_
                rintro e w3 ⟨rfl, b3⟩
                have hb3 := below_then HBW.out HBW.out.size b3
                have HB3 := Lib.hid hb3
                have h43 := H4W.out.keep b3
                have H43 := Lib.hid h43
                have hlt4 := Blk.lt h43
                obtain ⟨x0, x1, x2, x3, x4, j0, j1, j2, j3, j4⟩ := h43.cells
                clear b3 hb3 h43
                go_wp2_with fail
                have hzf : TokAt ((((((w3.setCell ⟨w.heap.size, 0, none⟩ (.int .i64 0)).setCell ⟨w.heap.size, 1, none⟩ (.string ⟨#[]⟩)).setCell ⟨w.heap.size, 2, none⟩ (.slice none 0 0)).setCell ⟨w.heap.size, 3, none⟩ (.bool false)).setCell ⟨w.heap.size, 4, none⟩ (.string ⟨#[]⟩)).alloc (.cells #[.string an, .string av] 71)) w.heap.size 0 ⟨#[]⟩ (.slice none 0 0) false := (((((H43.out.set 0 (.int .i64 0)).set 1 (.string ⟨#[]⟩)).set 2 (.slice none 0 0)).set 3 (.bool false)).set 4 (.string ⟨#[]⟩)).alloc _
                obtain ⟨k0, k1, k2, k3, k4, _⟩ := hzf.cells
                refine bodyPost_ret (v := .tuple #[.agg #[.int .i64 0, .string ⟨#[]⟩, .slice none 0 0, .bool false, .string ⟨#[]⟩], .int .i64 (s.size : Int), .bool false]) (by simp [results, Tryz.results46, go_sem, k0, k1, k2, k3, k4]) rfl
                  (out_no HRF.out rfl ?_)
                have hfb := ((((HB3.out.setCell (p := ⟨w.heap.size, 0, none⟩) (Nat.le_refl _) (.int .i64 0)).setCell (p := ⟨w.heap.size, 1, none⟩) (Nat.le_refl _) (.string ⟨#[]⟩)).setCell (p := ⟨w.heap.size, 2, none⟩) (Nat.le_refl _) (.slice none 0 0)).setCell (p := ⟨w.heap.size, 3, none⟩) (Nat.le_refl _) (.bool false)).setCell (p := ⟨w.heap.size, 4, none⟩) (Nat.le_refl _) (.string ⟨#[]⟩)
                exact hfb.alloc hfb.size _
              · have d1 : ((h : Int) == 0) = false := by rw [beq_eq_false_iff_ne]; omega
                have HVV : Hid (restT (B s) t0 [] false = if h = 2 then some (addA al ⟨an, av⟩, sf, p) else restT (B s) p (addA al ⟨an, av⟩) sf) := hst2.trans (if_neg hz)
                clear hst2 hz y0 y1 y2 y3 y4 i0 i1 i2 i3 i4 z0 z1 z2 z3 z4 g0 g1 g2 g3 g4
                go_wp2_with fail
                refine HSK.out.mono ?_
                rintro e w' ⟨rfl, rfl⟩
                go_wp2_with fail
                refine HSS.out.mono ?_
                rintro e w' ⟨rfl, rfl⟩
                go_wp2_with fail
                refine HAT.out.mono ?_
                rintro e w3 ⟨rfl, b3⟩
                have hba : Below w3.heap.size w3 (w3.alloc (.cells #[.string an, .string av] 71)) := (Below.refl _ _).alloc (Nat.le_refl _) _
                have hb33 := below_both b3 hba
                have hta := HTK.out.keep hb33
                have HTA := Lib.hid hta
                have H4A := Lib.hid (H4W.out.keep hb33)
                have HBA := Lib.hid (below_then HBW.out HBW.out.size hb33)
                have HT3 := HTK.out.keep b3
                obtain ⟨y0, y1, y2, y3, y4, i0, i1, i2, i3, i4⟩ := hta.cells
                obtain ⟨m0, m1, m2, m3, m4, _⟩ := HT3.cells
                have hlt7 := Blk.lt HT3
                have HAD := Lib.hid (add7 (w3.alloc (.cells #[.string an, .string av] 71)) A al.length c al ⟨an, av⟩ (HRD.out.keep hb33) (by omega))
                unfold val_at at HAD
                clear b3 hba hb33 hta HT3
                go_wp2_with fail
                refine HAD.out.mono ?_
                rintro e w4 ⟨v4, rfl, hrow, b4⟩
                have HR4 := Lib.hid (hrow.le (Nat.zero_le _))
                obtain ⟨A4, c4', hv4, _⟩ := hrow.read
                subst hv4
                have ht4 := HTA.out.keep b4
                have HT4 := Lib.hid ht4
                have HT5 := Lib.hid (ht4.setAttrs (.slice A4 (addA al ⟨an, av⟩).length c4'))
                have HR5 := Lib.hid (HR4.out.set ht4 tok_ne 2 (.slice A4 (addA al ⟨an, av⟩).length c4'))
                have H45 : Hid (TokAt (w4.setCell ⟨w.heap.size + 1, 2, none⟩ (.slice A4 (addA al ⟨an, av⟩).length c4')) w.heap.size 0 ⟨#[]⟩ (.slice none 0 0) false) := Blk.far (H4A.out.keep b4) (by show w.heap.size ≠ w.heap.size + 1; omega) _
                have HB5 := Lib.hid ((below_then HBA.out HBA.out.size b4).setCell (p := ⟨w.heap.size + 1, 2, none⟩) (Nat.le_succ _) (.slice A4 (addA al ⟨an, av⟩).length c4'))
                have hal2 := addA_le al ⟨an, av⟩ q hal
                obtain ⟨x0, x1, x2, x3, x4, j0, j1, j2, j3, j4⟩ := ht4.cells
                clear hrow b4 ht4 HTA H4A HBA y0 y1 y2 y3 y4 i0 i1 i2 i3 i4 m0 m1 m2 m3 m4 hlt7
                generalize addA al ⟨an, av⟩ = al2 at *
                by_cases hh2 : h = 2
                · have d2 : ((h : Int) == 2) = true := by rw [hh2]; rfl
                  have hn := HVV.out.trans (if_pos hh2)
                  have HRF : Hid (readT (B s) (k : Int) = (⟨3, B nm, [], false⟩, (p : Int), true)) := HRR.out.trans (by rw [hn])
                  have H4W := H45
                  have HRW := HR5
                  have HBW := HB5
                  clear hh2 hn HVV
                  go_wp2_with fail
                  refine (only_end nm ⟨#[]⟩ _ _ _ _ _).mono ?_
                  rintro e w6 ⟨rfl, b6⟩
                  have h46 := H4W.out.keep b6
                  obtain ⟨z0, z1, z2, z3, z4, g0, g1, g2, g3, g4⟩ := h46.cells
                  have HB6 := Lib.hid (below_then HBW.out HBW.out.size b6)
                  clear b6 h46
                  go_wp2_with fail
                  refine bodyPost_ret (v := .tuple #[.agg #[.int .i64 3, .string nm, .slice none 0 0, .bool false, .string ⟨#[]⟩], .int .i64 ((p : Int)), .bool true]) (by simp [results, Tryz.results46, go_sem, z0, z1, z2, z3, z4]) rfl
                    (out_tag HRF.out rfl (RowA.nil _ _) ?_)
                  exact ((((HB6.out.setCell (p := ⟨w.heap.size, 0, none⟩) (Nat.le_refl _) _).setCell (p := ⟨w.heap.size, 1, none⟩) (Nat.le_refl _) _).setCell (p := ⟨w.heap.size, 2, none⟩) (Nat.le_refl _) _).setCell (p := ⟨w.heap.size, 3, none⟩) (Nat.le_refl _) _).setCell (p := ⟨w.heap.size, 4, none⟩) (Nat.le_refl _) _
                · have d2 : ((h : Int) == 2) = false := by rw [beq_eq_false_iff_ne]; omega
                  have HV := Lib.hid (HVV.out.trans (if_neg hh2))
                  clear hh2 HVV
                  go_wp2_with fail
                  exact ⟨⟨p, al2, sf, _, by omega, rfl, by omega, HT5.out, H45.out, HR5.out, HB5.out, HV.out.symm⟩, by simp [intOf]; omega⟩
  · have HR : Hid (readT (B s) (k : Int) = (noTg, (k : Int), false)) := hr.trans (if_neg (by rw [show (B s)[k + 2]? = none by rw [List.getElem?_eq_none]; rw [HLE.out]; omega]; simp))
    clear hr
    go_enter Tryz.func46, Tryz.ntmps46
    go_wp2_with fail
    refine (HP.out _).mono ?_
    rintro e w' ⟨rfl, rfl⟩
    go_wp2_with fail
    refine bodyPost_ret (v := .tuple #[.agg #[.int .i64 0, .string ⟨#[]⟩, .slice none 0 0, .bool false, .string ⟨#[]⟩], .int .i64 (k : Int), .bool false]) (by simp [results, Tryz.results46, go_sem]) rfl
      (out_no HR.out rfl HB0.out)
set_option maxHeartbeats 16000000 in
set_option maxRecDepth 100000 in
theorem rtread_false (k : Nat) (hk : k < s.size) (h60 : s[k] = 60) (hen : endsAt (B s) k = false) :
    Calls Tryz.prog 46 #[.string s, .int .i64 (k : Int)] w (ReadOut w (readT (B s) (k : Int))) := by
  have hL : (B s).length = s.size := (size_B s).symm
  have hr0 : readT (B s) (k : Int) = tagT (B s) k := by
    unfold readT
    rw [if_neg (by omega), if_pos (by rw [Int.toNat_natCast, head_at hk, h60]), Int.toNat_natCast]
  have hft : fromT (B s) k = k + 1 := by unfold fromT; rw [hen]; rfl
  have htt : tagT (B s) k = if ((B s)[k + 1]?).any letterB = true then
      match restT (B s) (nameL (B s) (k + 1)) [] false with
      | none => (noTg, (s.size : Int), false)
      | some (al, sf, n) => ((⟨2, lowL (pieceL (B s) (k + 1) (nameL (B s) (k + 1))), al, sf⟩ : Tg), (n : Int), true)
    else (noTg, (k : Int), false) := by
    unfold tagT
    rw [hft, hen, hL]
    rfl
  have hr := hr0.trans htt
  have HP := Lib.hid (fun w => rstartsK s k ⟨#[60, 47]⟩ w hs (by omega) (by decide))
  rw [show B ⟨#[60, 47]⟩ = [60, 47] from rfl, show startsL (B s) [60, 47] k = endsAt (B s) k from rfl, hen] at HP
  have e1 : ((s[k].toNat : Int) != 60) = false := by rw [h60]; rfl
  have hba : Below w.heap.size w (w.alloc (.cells #[.int .i64 0, .string ⟨#[]⟩, .slice none 0 0, .bool false, .string ⟨#[]⟩] 44)) := (Below.refl _ _).alloc (Nat.le_refl _) _
  have hbb : Below w.heap.size w ((w.alloc (.cells #[.int .i64 0, .string ⟨#[]⟩, .slice none 0 0, .bool false, .string ⟨#[]⟩] 44)).alloc (.cells #[.int .i64 2, .string ⟨#[]⟩, .slice none 0 0, .bool false, .string ⟨#[]⟩] 44)) := hba.alloc (by simp) _
  have HB0 := Lib.hid hbb
  have HLE := Lib.hid hL
  clear hr0 hft htt hen hba hbb hL
  by_cases hfl : k + 1 < s.size
  · have hat := B_at s (k + 1) hfl
    rw [hat] at hr
    have HL := Lib.hid (fun w => rletter10 s[k + 1] w)
    cases hlt : letterB s[k + 1] with
    | false =>
      rw [hlt] at HL
      have HR : Hid (readT (B s) (k : Int) = (noTg, (k : Int), false)) := hr.trans (if_neg (by show ¬ letterB s[k + 1] = true; rw [hlt]; decide))
      clear hlt hr hat
      go_enter Tryz.func46, Tryz.ntmps46
      go_wp2_with fail
      refine (HP.out _).mono ?_
      rintro e w' ⟨rfl, rfl⟩
      go_wp2_with fail
      refine (HL.out _).mono ?_
      rintro e w' ⟨rfl, rfl⟩
      go_wp2_with fail
      refine bodyPost_ret (v := .tuple #[.agg #[.int .i64 0, .string ⟨#[]⟩, .slice none 0 0, .bool false, .string ⟨#[]⟩], .int .i64 (k : Int), .bool false]) (by simp [results, Tryz.results46, go_sem]) rfl
        (out_no HR.out rfl HB0.out)
    | true =>
      rw [hlt] at HL
      have hrm := hr.trans (if_pos (show letterB s[k + 1] = true from hlt))
      clear hr hlt hat
      have HNA := Lib.hid (fun w => rnameK s (k + 1) w hs (by omega))
      rw [show ((k + 1 : Nat) : Int) = (k : Int) + 1 by omega] at HNA
      have hnb := until_bd (B s) [9, 10, 12, 13, 32, 47, 62] (k + 1) (by rw [HLE.out]; omega)
      rw [HLE.out, show untilL (B s) [9, 10, 12, 13, 32, 47, 62] (k + 1) = nameL (B s) (k + 1) from rfl] at hnb
      generalize nameL (B s) (k + 1) = t0 at *
      obtain ⟨h1, h2⟩ := hnb
      have HLO := Lib.hid (fun w => rlowK s (k + 1) t0 w hs)
      have hbn : B (S (lowL (pieceL (B s) (k + 1) t0))) = lowL (pieceL (B s) (k + 1) t0) := B_S _
      rw [← hbn] at hrm
      generalize S (lowL (pieceL (B s) (k + 1) t0)) = nm at *
      clear hbn
      have HRR := Lib.hid hrm
      clear hrm
      have hb4 := (Blk.new w 44 #[.int .i64 0, .string ⟨#[]⟩, .slice none 0 0, .bool false, .string ⟨#[]⟩] (0, 0)).alloc (.cells #[.int .i64 2, .string ⟨#[]⟩, .slice none 0 0, .bool false, .string ⟨#[]⟩] 44)
      have hb7 := Blk.new (w.alloc (.cells #[.int .i64 0, .string ⟨#[]⟩, .slice none 0 0, .bool false, .string ⟨#[]⟩] 44)) 44 #[.int .i64 2, .string ⟨#[]⟩, .slice none 0 0, .bool false, .string ⟨#[]⟩] (0, 0)
      rw [show (w.alloc (.cells #[.int .i64 0, .string ⟨#[]⟩, .slice none 0 0, .bool false, .string ⟨#[]⟩] 44)).heap.size = w.heap.size + 1 by simp] at hb7
      have H4 := Lib.hid hb4
      have H7 := Lib.hid hb7
      clear hb4 hb7
      go_enter Tryz.func46, Tryz.ntmps46
      go_wp2_with fail
      refine (HP.out _).mono ?_
      rintro e w' ⟨rfl, rfl⟩
      go_wp2_with fail
      refine (HL.out _).mono ?_
      rintro e w' ⟨rfl, rfl⟩
      go_wp2_with fail
      refine (HNA.out _).mono ?_
      rintro e w' ⟨rfl, rfl⟩
      go_wp2_with fail
      refine (HLO.out _).mono ?_
      rintro e w2 ⟨rfl, b2⟩
      have hb2 := below_then HB0.out HB0.out.size b2
      have h42 := H4.out.keep b2
      have h72 := H7.out.keep b2
      obtain ⟨c0, c1, c2, c3, c4, f0, f1, f2, f3, f4⟩ := TokAt.cells (kd := 2) (nm := ⟨#[]⟩) (v := .slice none 0 0) (sf := false) h72
      have H43 : Hid (TokAt (w2.setCell ⟨w.heap.size + 1, 1, none⟩ (.string nm)) w.heap.size 0 ⟨#[]⟩ (.slice none 0 0) false) := h42.far (by show w.heap.size ≠ w.heap.size + 1; omega) _
      have H73 : Hid (TokAt (w2.setCell ⟨w.heap.size + 1, 1, none⟩ (.string nm)) (w.heap.size + 1) 2 nm (.slice none 0 0) false) := h72.set 1 (.string nm)
      have HB3 := Lib.hid (hb2.setCell (p := ⟨w.heap.size + 1, 1, none⟩) (Nat.le_succ _) (.string nm))
      clear b2 hb2 h42 h72
      go_wp2_with fail
      clear c0 c1 c2 c3 c4 f0 f1 f2 f3 f4
      have hne : w.heap.size + 1 ≠ w.heap.size := by omega
      have hne2 : w.heap.size ≠ w.heap.size + 1 := by omega
      go_loopw [9] (fun av wr => ∃ (q : Nat) (al : List At) (sf : Bool) (v : Value), q ≤ s.size ∧ av = .int .i64 q ∧ al.length ≤ q ∧ TokAt wr (w.heap.size + 1) 2 nm v sf ∧ TokAt wr w.heap.size 0 ⟨#[]⟩ (.slice none 0 0) false ∧ RowA wr 0 v al ∧ Below w.heap.size w wr ∧ Hid (restT (B s) q al sf = restT (B s) t0 [] false)) (fun av _ => s.size + 1 - (intOf av).toNat)
      case atStart => exact ⟨t0, [], false, .slice none 0 0, h2, rfl, Nat.zero_le _, H73.out, H43.out, RowA.nil _ _, HB3.out, rfl⟩
      case round =>
        obtain ⟨q, al, sf, v, hq, rfl, hal, ht, h4, ha, hb, HRE⟩ := hrel
        obtain ⟨A, c, rfl, hrd, hc0⟩ := ha.read0
        have HTK := Lib.hid ht
        have H4W := Lib.hid h4
        have HRW := Lib.hid ha
        have HBW := Lib.hid hb
        have HRD := Lib.hid hrd
        have HC0 := Lib.hid hc0
        obtain ⟨y0, y1, y2, y3, y4, i0, i1, i2, i3, i4⟩ := ht.cells
        obtain ⟨z0, z1, z2, z3, z4, g0, g1, g2, g3, g4⟩ := h4.cells
        clear ht h4 ha hb hrd hc0 H43 H73 HB3
        have HSK := Lib.hid (rskipK s q wr hs hq)
        have hsb := skip_bd (B s) q (by rw [HLE.out]; exact hq)
        rw [HLE.out] at hsb
        have hst0 := restT_step (B s) q al sf (by rw [HLE.out]; exact hq)
        rw [HRE.out] at hst0
        generalize skipL (B s) q = t at *
        obtain ⟨q1, q2⟩ := hsb
        by_cases hts : t = s.size
        · have hn : restT (B s) t0 [] false = none := by
            rw [hst0, show (B s)[t]? = none by rw [List.getElem?_eq_none]; rw [HLE.out]; omega]
          have HRF : Hid (readT (B s) (k : Int) = (noTg, (t : Int), false)) := HRR.out.trans (by rw [hn, hts])
          have d0 : ((t : Int) == (s.size : Int)) = true := by rw [hts]; exact beq_self_eq_true _
          clear hn hst0 hts
          go_wp2_with fail
          refine HSK.out.mono ?_
          rintro e w' ⟨rfl, rfl⟩
          go_wp2_with fail
          refine bodyPost_ret (v := .tuple #[.agg #[.int .i64 0, .string ⟨#[]⟩, .slice none 0 0, .bool false, .string ⟨#[]⟩], .int .i64 (t : Int), .bool false]) (by simp [results, Tryz.results46, go_sem, z0, z1, z2, z3, z4]) rfl
            (out_no HRF.out rfl ?_)
          exact ((((HBW.out.setCell (p := ⟨w.heap.size, 0, none⟩) (Nat.le_refl _) _).setCell (p := ⟨w.heap.size, 1, none⟩) (Nat.le_refl _) _).setCell (p := ⟨w.heap.size, 2, none⟩) (Nat.le_refl _) _).setCell (p := ⟨w.heap.size, 3, none⟩) (Nat.le_refl _) _).setCell (p := ⟨w.heap.size, 4, none⟩) (Nat.le_refl _) _
        · have htl : t < s.size := by omega
          have d0 : ((t : Int) == (s.size : Int)) = false := by rw [beq_eq_false_iff_ne]; omega
          rw [B_at s t htl] at hst0
          simp only at hst0
          clear hts
          by_cases h62 : s[t] = 62
          · have e2 : ((s[t].toNat : Int) == 62) = true := by rw [h62]; rfl
            have hn := hst0.trans (if_pos h62)
            have HRF : Hid (readT (B s) (k : Int) = (⟨2, B nm, al, sf⟩, (t : Int) + 1, true)) := HRR.out.trans (by rw [hn]; simp)
            clear hn hst0 h62
            go_wp2_with fail
            refine HSK.out.mono ?_
            rintro e w' ⟨rfl, rfl⟩
            go_wp2_with fail
            refine (only_start nm ⟨#[]⟩ _ _ _ _ _).mono ?_
            rintro e w6 ⟨rfl, b6⟩
            have h46 := H4W.out.keep b6
            have H46 := Lib.hid h46
            have HR6 := Lib.hid (HRW.out.keep b6)
            obtain ⟨z0, z1, z2, z3, z4, g0, g1, g2, g3, g4⟩ := h46.cells
            have HB6 := Lib.hid (below_then HBW.out HBW.out.size b6)
            clear b6 h46
            go_wp2_with fail
            refine bodyPost_ret (v := .tuple #[.agg #[.int .i64 2, .string nm, .slice A al.length c, .bool sf, .string ⟨#[]⟩], .int .i64 ((t : Int) + 1), .bool true]) (by simp [results, Tryz.results46, go_sem, z0, z1, z2, z3, z4]) rfl
              (out_tag HRF.out rfl ?_ ?_)
            · exact ((((HR6.out.set H46.out tok_ne 0 _).set (H46.out.set 0 _) tok_ne 1 _).set ((H46.out.set 0 _).set 1 _) tok_ne 2 _).set (((H46.out.set 0 _).set 1 _).set 2 _) tok_ne 3 _).set ((((H46.out.set 0 _).set 1 _).set 2 _).set 3 _) tok_ne 4 _
            · exact ((((HB6.out.setCell (p := ⟨w.heap.size, 0, none⟩) (Nat.le_refl _) _).setCell (p := ⟨w.heap.size, 1, none⟩) (Nat.le_refl _) _).setCell (p := ⟨w.heap.size, 2, none⟩) (Nat.le_refl _) _).setCell (p := ⟨w.heap.size, 3, none⟩) (Nat.le_refl _) _).setCell (p := ⟨w.heap.size, 4, none⟩) (Nat.le_refl _) _
          · have e2 : ((s[t].toNat : Int) == 62) = false := byte_ne (n := 62) (by decide) h62
            have hst1 := hst0.trans (if_neg h62)
            have HSS := Lib.hid (rstartsK s t ⟨#[47, 62]⟩ wr hs q2 (by decide))
            rw [show B ⟨#[47, 62]⟩ = [47, 62] from rfl, starts_slash s t htl] at HSS
            clear h62 hst0
            by_cases h47 : s[t] = 47
            · have e3 : ((s[t].toNat : Int) == 47) = true := by rw [h47]; rfl
              have hst2 := hst1.trans (if_pos h47)
              rw [show (s[t] == 47) = true by rw [h47]; rfl, Bool.true_and] at HSS
              clear h47 hst1
              by_cases hn : (B s)[t + 1]? = some 62
              · have hn2 := hst2.trans (if_pos hn)
                have HRF : Hid (readT (B s) (k : Int) = (⟨2, B nm, al, true⟩, (t : Int) + 2, true)) := HRR.out.trans (by rw [hn2]; simp)
                rw [decide_eq_true hn] at HSS
                have hlt2 : t + 1 < s.size := by have := lt_of_at hn; rw [HLE.out] at this; exact this
                have HRW0 := HRW
                have HRW := Lib.hid (HRW0.out.set HTK.out tok_ne 3 (.bool true))
                have H4W0 := H4W
                have H4W : Hid (TokAt (wr.setCell ⟨w.heap.size + 1, 3, none⟩ (.bool true)) w.heap.size 0 ⟨#[]⟩ (.slice none 0 0) false) := Blk.far H4W0.out (by show w.heap.size ≠ w.heap.size + 1; omega) _
                have HBW0 := HBW
                have HBW := Lib.hid (HBW0.out.setCell (p := ⟨w.heap.size + 1, 3, none⟩) (Nat.le_succ _) (.bool true))
                clear hn hn2 hst2
                go_wp2_with fail
                refine HSK.out.mono ?_
                rintro e w' ⟨rfl, rfl⟩
                go_wp2_with fail
                refine HSS.out.mono ?_
                rintro e w' ⟨rfl, rfl⟩
                go_wp2_with fail
                refine (only_start nm ⟨#[]⟩ _ _ _ _ _).mono ?_
                rintro e w6 ⟨rfl, b6⟩
                have h46 := H4W.out.keep b6
                have H46 := Lib.hid h46
                have HR6 := Lib.hid (HRW.out.keep b6)
                obtain ⟨z0, z1, z2, z3, z4, g0, g1, g2, g3, g4⟩ := h46.cells
                have HB6 := Lib.hid (below_then HBW.out HBW.out.size b6)
                clear b6 h46
                go_wp2_with fail
                refine bodyPost_ret (v := .tuple #[.agg #[.int .i64 2, .string nm, .slice A al.length c, .bool true, .string ⟨#[]⟩], .int .i64 ((t : Int) + 2), .bool true]) (by simp [results, Tryz.results46, go_sem, z0, z1, z2, z3, z4]) rfl
                  (out_tag HRF.out rfl ?_ ?_)
                · exact ((((HR6.out.set H46.out tok_ne 0 _).set (H46.out.set 0 _) tok_ne 1 _).set ((H46.out.set 0 _).set 1 _) tok_ne 2 _).set (((H46.out.set 0 _).set 1 _).set 2 _) tok_ne 3 _).set ((((H46.out.set 0 _).set 1 _).set 2 _).set 3 _) tok_ne 4 _
                · exact ((((HB6.out.setCell (p := ⟨w.heap.size, 0, none⟩) (Nat.le_refl _) _).setCell (p := ⟨w.heap.size, 1, none⟩) (Nat.le_refl _) _).setCell (p := ⟨w.heap.size, 2, none⟩) (Nat.le_refl _) _).setCell (p := ⟨w.heap.size, 3, none⟩) (Nat.le_refl _) _).setCell (p := ⟨w.heap.size, 4, none⟩) (Nat.le_refl _) _
              · have HV := Lib.hid (hst2.trans (if_neg hn))
                rw [decide_eq_false hn] at HSS
                clear hn hst2
                go_wp2_with fail
                refine HSK.out.mono ?_
                rintro e w' ⟨rfl, rfl⟩
                go_wp2_with fail
                refine HSS.out.mono ?_
                rintro e w' ⟨rfl, rfl⟩
                go_wp2_with fail
                exact ⟨⟨t + 1, al, sf, _, by omega, by go_num, by omega, HTK.out, H4W.out, HRW.out, HBW.out, HV.out.symm⟩, by simp [intOf]; omega⟩
            · have e3 : ((s[t].toNat : Int) == 47) = false := byte_ne (n := 47) (by decide) h47
              have hst2 := hst1.trans (if_neg h47)
              rw [show (s[t] == 47) = false by rw [beq_eq_false_iff_ne]; exact h47, Bool.false_and] at HSS
              clear h47 hst1
              have HAT := Lib.hid (rattr_any s t wr hs htl)
              have hbd := attr_bd (B s) t (by rw [HLE.out]; exact htl)
              rw [HLE.out] at hbd
              unfold arV val_at at HAT
              generalize attrT (B s) t = r at *
              obtain ⟨⟨an, av⟩, p, h⟩ := r
              simp only at hbd hst2 HAT
              obtain ⟨r1, r2, r3⟩ := hbd
              by_cases hz : h = 0
              · have d1 : ((h : Int) == 0) = true := by rw [hz]; rfl
                have hn := hst2.trans (if_pos hz)
                have HRF : Hid (readT (B s) (k : Int) = (noTg, (s.size : Int), false)) := HRR.out.trans (by rw [hn])
                clear hst2 hz hn y0 y1 y2 y3 y4 i0 i1 i2 i3 i4 z0 z1 z2 z3 z4 g0 g1 g2 g3 g4
                go_wp2_with fail
                refine HSK.out.mono ?_
                rintro e w' ⟨rfl, rfl⟩
                go_wp2_with fail
                refine HSS.out.mono ?_
                rintro e w' ⟨rfl, rfl⟩
                go_wp2_with fail
                refine HAT.out.mono ?_
                rintro e w3 ⟨rfl, b3⟩
                have hb3 := below_then HBW.out HBW.out.size b3
                have HB3 := Lib.hid hb3
                have h43 := H4W.out.keep b3
                have H43 := Lib.hid h43
                have hlt4 := Blk.lt h43
                obtain ⟨x0, x1, x2, x3, x4, j0, j1, j2, j3, j4⟩ := h43.cells
                clear b3 hb3 h43
                go_wp2_with fail
                have hzf : TokAt ((((((w3.setCell ⟨w.heap.size, 0, none⟩ (.int .i64 0)).setCell ⟨w.heap.size, 1, none⟩ (.string ⟨#[]⟩)).setCell ⟨w.heap.size, 2, none⟩ (.slice none 0 0)).setCell ⟨w.heap.size, 3, none⟩ (.bool false)).setCell ⟨w.heap.size, 4, none⟩ (.string ⟨#[]⟩)).alloc (.cells #[.string an, .string av] 71)) w.heap.size 0 ⟨#[]⟩ (.slice none 0 0) false := (((((H43.out.set 0 (.int .i64 0)).set 1 (.string ⟨#[]⟩)).set 2 (.slice none 0 0)).set 3 (.bool false)).set 4 (.string ⟨#[]⟩)).alloc _
                obtain ⟨k0, k1, k2, k3, k4, _⟩ := hzf.cells
                refine bodyPost_ret (v := .tuple #[.agg #[.int .i64 0, .string ⟨#[]⟩, .slice none 0 0, .bool false, .string ⟨#[]⟩], .int .i64 (s.size : Int), .bool false]) (by simp [results, Tryz.results46, go_sem, k0, k1, k2, k3, k4]) rfl
                  (out_no HRF.out rfl ?_)
                have hfb := ((((HB3.out.setCell (p := ⟨w.heap.size, 0, none⟩) (Nat.le_refl _) (.int .i64 0)).setCell (p := ⟨w.heap.size, 1, none⟩) (Nat.le_refl _) (.string ⟨#[]⟩)).setCell (p := ⟨w.heap.size, 2, none⟩) (Nat.le_refl _) (.slice none 0 0)).setCell (p := ⟨w.heap.size, 3, none⟩) (Nat.le_refl _) (.bool false)).setCell (p := ⟨w.heap.size, 4, none⟩) (Nat.le_refl _) (.string ⟨#[]⟩)
                exact hfb.alloc hfb.size _
              · have d1 : ((h : Int) == 0) = false := by rw [beq_eq_false_iff_ne]; omega
                have HVV : Hid (restT (B s) t0 [] false = if h = 2 then some (addA al ⟨an, av⟩, sf, p) else restT (B s) p (addA al ⟨an, av⟩) sf) := hst2.trans (if_neg hz)
                clear hst2 hz y0 y1 y2 y3 y4 i0 i1 i2 i3 i4 z0 z1 z2 z3 z4 g0 g1 g2 g3 g4
                go_wp2_with fail
                refine HSK.out.mono ?_
                rintro e w' ⟨rfl, rfl⟩
                go_wp2_with fail
                refine HSS.out.mono ?_
                rintro e w' ⟨rfl, rfl⟩
                go_wp2_with fail
                refine HAT.out.mono ?_
                rintro e w3 ⟨rfl, b3⟩
                have hba : Below w3.heap.size w3 (w3.alloc (.cells #[.string an, .string av] 71)) := (Below.refl _ _).alloc (Nat.le_refl _) _
                have hb33 := below_both b3 hba
                have hta := HTK.out.keep hb33
                have HTA := Lib.hid hta
                have H4A := Lib.hid (H4W.out.keep hb33)
                have HBA := Lib.hid (below_then HBW.out HBW.out.size hb33)
                have HT3 := HTK.out.keep b3
                obtain ⟨y0, y1, y2, y3, y4, i0, i1, i2, i3, i4⟩ := hta.cells
                obtain ⟨m0, m1, m2, m3, m4, _⟩ := HT3.cells
                have hlt7 := Blk.lt HT3
                have HAD := Lib.hid (add7 (w3.alloc (.cells #[.string an, .string av] 71)) A al.length c al ⟨an, av⟩ (HRD.out.keep hb33) (by omega))
                unfold val_at at HAD
                clear b3 hba hb33 hta HT3
                go_wp2_with fail
                refine HAD.out.mono ?_
                rintro e w4 ⟨v4, rfl, hrow, b4⟩
                have HR4 := Lib.hid (hrow.le (Nat.zero_le _))
                obtain ⟨A4, c4', hv4, _⟩ := hrow.read
                subst hv4
                have ht4 := HTA.out.keep b4
                have HT4 := Lib.hid ht4
                have HT5 := Lib.hid (ht4.setAttrs (.slice A4 (addA al ⟨an, av⟩).length c4'))
                have HR5 := Lib.hid (HR4.out.set ht4 tok_ne 2 (.slice A4 (addA al ⟨an, av⟩).length c4'))
                have H45 : Hid (TokAt (w4.setCell ⟨w.heap.size + 1, 2, none⟩ (.slice A4 (addA al ⟨an, av⟩).length c4')) w.heap.size 0 ⟨#[]⟩ (.slice none 0 0) false) := Blk.far (H4A.out.keep b4) (by show w.heap.size ≠ w.heap.size + 1; omega) _
                have HB5 := Lib.hid ((below_then HBA.out HBA.out.size b4).setCell (p := ⟨w.heap.size + 1, 2, none⟩) (Nat.le_succ _) (.slice A4 (addA al ⟨an, av⟩).length c4'))
                have hal2 := addA_le al ⟨an, av⟩ q hal
                obtain ⟨x0, x1, x2, x3, x4, j0, j1, j2, j3, j4⟩ := ht4.cells
                clear hrow b4 ht4 HTA H4A HBA y0 y1 y2 y3 y4 i0 i1 i2 i3 i4 m0 m1 m2 m3 m4 hlt7
                generalize addA al ⟨an, av⟩ = al2 at *
                by_cases hh2 : h = 2
                · have d2 : ((h : Int) == 2) = true := by rw [hh2]; rfl
                  have hn := HVV.out.trans (if_pos hh2)
                  have HRF : Hid (readT (B s) (k : Int) = (⟨2, B nm, al2, sf⟩, (p : Int), true)) := HRR.out.trans (by rw [hn])
                  have H4W := H45
                  have HRW := HR5
                  have HBW := HB5
                  clear hh2 hn HVV
                  go_wp2_with fail
                  refine (only_start nm ⟨#[]⟩ _ _ _ _ _).mono ?_
                  rintro e w6 ⟨rfl, b6⟩
                  have h46 := H4W.out.keep b6
                  have H46 := Lib.hid h46
                  have HR6 := Lib.hid (HRW.out.keep b6)
                  obtain ⟨z0, z1, z2, z3, z4, g0, g1, g2, g3, g4⟩ := h46.cells
                  have HB6 := Lib.hid (below_then HBW.out HBW.out.size b6)
                  clear b6 h46
                  go_wp2_with fail
                  refine bodyPost_ret (v := .tuple #[.agg #[.int .i64 2, .string nm, .slice A4 al2.length c4', .bool sf, .string ⟨#[]⟩], .int .i64 ((p : Int)), .bool true]) (by simp [results, Tryz.results46, go_sem, z0, z1, z2, z3, z4]) rfl
                    (out_tag HRF.out rfl ?_ ?_)
                  · exact ((((HR6.out.set H46.out tok_ne 0 _).set (H46.out.set 0 _) tok_ne 1 _).set ((H46.out.set 0 _).set 1 _) tok_ne 2 _).set (((H46.out.set 0 _).set 1 _).set 2 _) tok_ne 3 _).set ((((H46.out.set 0 _).set 1 _).set 2 _).set 3 _) tok_ne 4 _
                  · exact ((((HB6.out.setCell (p := ⟨w.heap.size, 0, none⟩) (Nat.le_refl _) _).setCell (p := ⟨w.heap.size, 1, none⟩) (Nat.le_refl _) _).setCell (p := ⟨w.heap.size, 2, none⟩) (Nat.le_refl _) _).setCell (p := ⟨w.heap.size, 3, none⟩) (Nat.le_refl _) _).setCell (p := ⟨w.heap.size, 4, none⟩) (Nat.le_refl _) _
                · have d2 : ((h : Int) == 2) = false := by rw [beq_eq_false_iff_ne]; omega
                  have HV := Lib.hid (HVV.out.trans (if_neg hh2))
                  clear hh2 HVV
                  go_wp2_with fail
                  exact ⟨⟨p, al2, sf, _, by omega, rfl, by omega, HT5.out, H45.out, HR5.out, HB5.out, HV.out.symm⟩, by simp [intOf]; omega⟩
  · have HR : Hid (readT (B s) (k : Int) = (noTg, (k : Int), false)) := hr.trans (if_neg (by rw [show (B s)[k + 1]? = none by rw [List.getElem?_eq_none]; rw [HLE.out]; omega]; simp))
    clear hr
    go_enter Tryz.func46, Tryz.ntmps46
    go_wp2_with fail
    refine (HP.out _).mono ?_
    rintro e w' ⟨rfl, rfl⟩
    go_wp2_with fail
    refine bodyPost_ret (v := .tuple #[.agg #[.int .i64 0, .string ⟨#[]⟩, .slice none 0 0, .bool false, .string ⟨#[]⟩], .int .i64 (k : Int), .bool false]) (by simp [results, Tryz.results46, go_sem]) rfl
      (out_no HR.out rfl HB0.out)
theorem rtread_any (at_ : Int) :
    Calls Tryz.prog 46 #[.string s, .int .i64 at_] w (ReadOut w (readT (B s) at_)) := by
  by_cases h0 : at_ < 0
  · exact rtread_no s w hs at_ (.inl h0)
  · obtain ⟨k, rfl⟩ : ∃ k : Nat, at_ = (k : Int) := ⟨at_.toNat, by omega⟩
    by_cases hk : k < s.size
    · by_cases h60 : s[k] = 60
      · cases hen : endsAt (B s) k with
        | true => exact rtread_true s w hs k hk h60 hen
        | false => exact rtread_false s w hs k hk h60 hen
      · exact rtread_no s w hs _ (.inr (.inr ⟨k, hk, rfl, h60⟩))
    · exact rtread_no s w hs _ (.inr (.inl (by omega)))
end
end Go.Proofs.YtdjeajbinpgpiaaGreat
