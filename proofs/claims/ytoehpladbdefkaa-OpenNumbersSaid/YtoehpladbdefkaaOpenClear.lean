/- Open elements: Thorough, Clear. -/
import Derived.Test.YtoehpladbdefkaaOpenTrim
namespace Go.Proofs.Ytoehpladbdefkaa
open Go.RowKit

set_option maxHeartbeats 2000000 in
set_option maxRecDepth 100000 in
theorem thorough_item (F : Nat → Prop) (w : World) (q : Nat) (l : List It) (h : LF_item F w q l) :
    Calls Try.prog 43 #[.pointer (some ⟨q, 0, none⟩)] w fun e w' => e = .returned (.tuple #[]) ∧ LF_item F w' q (trim thoroughP l) ∧ But F w w' := by
  have HL := Lib.hid h
  clear h
  go_enter Try.func43, Try.ntmps43
  go_wp2_with fail
  go_loopg [4] l.length (fun k _ wr => ∃ (lr : List It), lr.length = k ∧ LF_item F wr q lr ∧ But F w wr ∧ trim thoroughP l = trim thoroughP lr)
  case atStart => exact ⟨l, rfl, HL.out, But.refl _ _, rfl⟩
  case round =>
    obtain ⟨lr, hlr, hlf, hbr, ht⟩ := hrel
    have HLF := Lib.hid hlf
    have HB := Lib.hid hbr
    have HT := Lib.hid ht
    clear hlf hbr ht
    rcases List.eq_nil_or_concat lr with rfl | ⟨l0, y, rfl⟩
    · go_wp2_with fail
      refine (topF_item F _ q _ HLF.out).mono ?_
      rintro e w2 ⟨rfl, b2⟩
      have HB2 := Lib.hid (HB.out.trans (S1 := fun _ => False) (But.of_below b2) (fun _ h => h.elim))
      have HLF2 := Lib.hid (HLF.out.keep b2)
      simp only [List.getLast?_nil, Option.elim, Option.isSome_none]
      go_wp2_with fail
      refine bodyPost_ret (results_none rfl _ _ _) rfl ?_
      exact ⟨rfl, by rw [HT.out]; exact HLF2.out.keep ((Below.refl _ _).alloc (Nat.le_refl _) _), HB2.out.alloc _⟩
    · rw [List.concat_eq_append] at *
      go_wp2_with fail
      refine (topF_item F _ q _ HLF.out).mono ?_
      rintro e w2 ⟨rfl, b2⟩
      have hb2 := HB.out.trans (S1 := fun _ => False) (But.of_below b2) (fun _ h => h.elim)
      have hb3 : But F w (w2.alloc (.cells (enc_item y).toArray 50)) := hb2.alloc _
      obtain ⟨hvc, _⟩ := var_item (x := y) (Blk.new w2 50 (enc_item y).toArray (0, 0))
      have c0 := hvc 0 _ rfl; have c1 := hvc 1 _ rfl; have c2 := hvc 2 _ rfl; have c3 := hvc 3 _ rfl
      have HB3 := Lib.hid hb3
      have HLF3 := Lib.hid ((HLF.out.keep b2).keep (w1 := w2.alloc (.cells (enc_item y).toArray 50)) ((Below.refl _ _).alloc (Nat.le_refl _) _))
      clear hvc hb2 hb3 b2
      unfold enc_item at c0 c1 c2 c3
      simp only [List.getLast?_append, List.getLast?_singleton, Option.some_or, Option.elim, Option.isSome_some, val_item]
      have HI := Lib.hid (names_thorough (w2.alloc (.cells #[.int .i64 y.h, .int .i64 y.ns, .string y.name, .slice y.a y.n y.c] 50)) y.name)
      obtain ⟨bt, hbt⟩ : ∃ b, (inB y.name thoroughN || inB y.name impliedN) = b := ⟨_, rfl⟩
      rw [hbt] at HI
      cases hn : (y.ns == 1)
      · have hp : thoroughP y = false := by unfold thoroughP; rw [hn]; rfl
        have HP := Lib.hid (trim_stop (l := l0) hp)
        have hn' : (y.ns != 1) = true := by simp only [bne, hn]; rfl
        clear hp hn hbt
        go_wp2_with fail
        refine bodyPost_ret (results_none rfl _ _ _) rfl ?_
        exact ⟨rfl, by rw [HT.out, HP.out]; exact HLF3.out, HB3.out⟩
      · have hn' : (y.ns != 1) = false := by simp only [bne, hn]; rfl
        cases bt
        · have hp : thoroughP y = false := by unfold thoroughP; rw [hbt, Bool.and_false]
          have HP := Lib.hid (trim_stop (l := l0) hp)
          clear hp hn hbt
          go_wp2_with fail
          refine HI.out.mono ?_
          rintro e w5 ⟨rfl, rfl⟩
          go_wp2_with fail
          refine bodyPost_ret (results_none rfl _ _ _) rfl ?_
          exact ⟨rfl, by rw [HT.out, HP.out]; exact HLF3.out, HB3.out⟩
        · have hp : thoroughP y = true := by unfold thoroughP; rw [hbt, hn]; rfl
          have HP := Lib.hid (trim_on (l := l0) hp)
          have hl0 : (l0 ++ [y]).length = l0.length + 1 := by simp
          clear hp hn hbt
          go_wp2_with fail
          refine HI.out.mono ?_
          rintro e w5 ⟨rfl, rfl⟩
          go_wp2_with fail
          refine (popF_item F _ q l0 y HLF3.out).mono ?_
          rintro e w6 ⟨rfl, hlf6, b6⟩
          have HB6 := Lib.hid (HB3.out.trans b6 (fun k hk => .inl hk))
          have HLF6 := Lib.hid hlf6
          clear hlf6 b6
          go_wp2_with fail
          go_roundg l0.length
          case rel => exact ⟨l0, rfl, HLF6.out, HB6.out, by rw [HT.out, HP.out]⟩
          all_goals omega

def rootsN : List ByteArray := [⟨#[104, 116, 109, 108]⟩, ⟨#[116, 101, 109, 112, 108, 97, 116, 101]⟩]
def isN (names : List ByteArray) (x : It) : Bool := x.ns == 1 && inB x.name names
def clearP (names : List ByteArray) (x : It) : Bool := !isN names x && !isN rootsN x

set_option maxHeartbeats 2000000 in
set_option maxRecDepth 100000 in
theorem clear_item (F : Nat → Prop) (w : World) (q : Nat) (l : List It) (A : Option Addr) (c : Nat) (names : List ByteArray) (h : LF_item F w q l) (hr : ∀ w', But F w w' → Rd w' A names.length 1 (strs names)) (hb : names.length ≤ 9223372036854775807) :
    Calls Try.prog 44 #[.pointer (some ⟨q, 0, none⟩), .slice A names.length c] w fun e w' => e = .returned (.tuple #[]) ∧ LF_item F w' q (trim (clearP names) l) ∧ But F w w' := by
  have HL := Lib.hid h
  have HR := Lib.hid hr
  clear h hr
  go_enter Try.func44, Try.ntmps44
  go_wp2_with fail
  go_loopg [5] l.length (fun k _ wr => ∃ (lr : List It), lr.length = k ∧ LF_item F wr q lr ∧ But F w wr ∧ trim (clearP names) l = trim (clearP names) lr)
  case atStart => exact ⟨l, rfl, HL.out, But.refl _ _, rfl⟩
  case round =>
    obtain ⟨lr, hlr, hlf, hbr, ht⟩ := hrel
    have HLF := Lib.hid hlf
    have HB := Lib.hid hbr
    have HT := Lib.hid ht
    clear hlf hbr ht
    rcases List.eq_nil_or_concat lr with rfl | ⟨l0, y, rfl⟩
    · go_wp2_with fail
      refine (topF_item F _ q _ HLF.out).mono ?_
      rintro e w2 ⟨rfl, b2⟩
      have HB2 := Lib.hid (HB.out.trans (S1 := fun _ => False) (But.of_below b2) (fun _ h => h.elim))
      have HLF2 := Lib.hid (HLF.out.keep b2)
      simp only [List.getLast?_nil, Option.elim, Option.isSome_none]
      go_wp2_with fail
      refine bodyPost_ret (results_none rfl _ _ _) rfl ?_
      exact ⟨rfl, by rw [HT.out]; exact HLF2.out.keep ((Below.refl _ _).alloc (Nat.le_refl _) _), HB2.out.alloc _⟩
    · rw [List.concat_eq_append] at *
      go_wp2_with fail
      refine (topF_item F _ q _ HLF.out).mono ?_
      rintro e w2 ⟨rfl, b2⟩
      have hb2 := HB.out.trans (S1 := fun _ => False) (But.of_below b2) (fun _ h => h.elim)
      have hb3 : But F w (w2.alloc (.cells (enc_item y).toArray 50)) := hb2.alloc _
      obtain ⟨hvc, _⟩ := var_item (x := y) (Blk.new w2 50 (enc_item y).toArray (0, 0))
      have c0 := hvc 0 _ rfl; have c1 := hvc 1 _ rfl; have c2 := hvc 2 _ rfl; have c3 := hvc 3 _ rfl
      have HI := Lib.hid (is_name_item _ y A c names (HR.out _ hb3) hb)
      have HVC := Lib.hid hvc
      have HB3 := Lib.hid hb3
      have HLF3 := Lib.hid ((HLF.out.keep b2).keep (w1 := w2.alloc (.cells (enc_item y).toArray 50)) ((Below.refl _ _).alloc (Nat.le_refl _) _))
      clear hvc hb2 hb3 b2
      unfold enc_item at c0 c1 c2 c3
      simp only [List.getLast?_append, List.getLast?_singleton, Option.some_or, Option.elim, Option.isSome_some, val_item]
      go_wp2_with fail
      refine HI.out.mono ?_
      rintro e w4 ⟨rfl, b4⟩
      have HB4 := Lib.hid (HB3.out.trans (S1 := fun _ => False) (But.of_below b4) (fun _ h => h.elim))
      have HLF4 := Lib.hid (HLF3.out.keep b4)
      have k0 := cell_keep b4 (HVC.out 0 _ rfl); have k1 := cell_keep b4 (HVC.out 1 _ rfl); have k2 := cell_keep b4 (HVC.out 2 _ rfl); have k3 := cell_keep b4 (HVC.out 3 _ rfl)
      clear b4
      cases hq : (y.ns == 1 && inB y.name names)
      · have hba : Below w4.heap.size w4 (w4.alloc (.cells (strs rootsN).toArray 9)) := (Below.refl _ _).alloc (Nat.le_refl _) _
        have HJ := Lib.hid (is_name_item (w4.alloc (.cells (strs rootsN).toArray 9)) y (some ⟨w4.heap.size, 0, none⟩) 2 rootsN (rd_lit w4 9 rootsN) (by decide))
        have HBA := Lib.hid hba
        have HQ := Lib.hid hq
        clear hba hq
        go_wp2_with fail
        refine HJ.out.mono ?_
        rintro e w6 ⟨rfl, b6⟩
        have b46 := below_both HBA.out b6
        have HB6 := Lib.hid (HB4.out.trans (S1 := fun _ => False) (But.of_below b46) (fun _ h => h.elim))
        have HLF6 := Lib.hid (HLF4.out.keep b46)
        clear b6 b46
        cases hq2 : (y.ns == 1 && inB y.name rootsN)
        · have hp : clearP names y = true := by unfold clearP isN; rw [HQ.out, hq2]; rfl
          have HP := Lib.hid (trim_on (l := l0) hp)
          have hl0 : (l0 ++ [y]).length = l0.length + 1 := by simp
          clear hp hq2
          go_wp2_with fail
          refine (popF_item F _ q l0 y HLF6.out).mono ?_
          rintro e w7 ⟨rfl, hlf7, b7⟩
          have HB7 := Lib.hid (HB6.out.trans b7 (fun k hk => .inl hk))
          have HLF7 := Lib.hid hlf7
          clear hlf7 b7
          go_wp2_with fail
          go_roundg l0.length
          case rel => exact ⟨l0, rfl, HLF7.out, HB7.out, by rw [HT.out, HP.out]⟩
          all_goals omega
        · have hp : clearP names y = false := by unfold clearP isN; rw [HQ.out, hq2]; rfl
          have HP := Lib.hid (trim_stop (l := l0) hp)
          clear hp hq2
          go_wp2_with fail
          refine bodyPost_ret (results_none rfl _ _ _) rfl ?_
          exact ⟨rfl, by rw [HT.out, HP.out]; exact HLF6.out, HB6.out⟩
      · have hp : clearP names y = false := by unfold clearP isN; rw [hq]; rfl
        have HP := Lib.hid (trim_stop (l := l0) hp)
        clear hp hq
        go_wp2_with fail
        refine bodyPost_ret (results_none rfl _ _ _) rfl ?_
        exact ⟨rfl, by rw [HT.out, HP.out]; exact HLF4.out, HB4.out⟩
end Go.Proofs.Ytoehpladbdefkaa
