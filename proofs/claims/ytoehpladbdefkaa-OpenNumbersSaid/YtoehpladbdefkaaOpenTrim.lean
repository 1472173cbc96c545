/- Open elements: Imply, Thorough. -/
import Derived.Test.YtoehpladbdefkaaOpenOps
import Derived.Deep.LoopGhost
namespace Go.Proofs.Ytoehpladbdefkaa
open Go.RowKit

def implyP (but : ByteArray) (x : It) : Bool := x.ns == 1 && (inB x.name impliedN && !(x.name.toList == but.toList))
def thoroughP (x : It) : Bool := x.ns == 1 && (inB x.name thoroughN || inB x.name impliedN)

set_option maxHeartbeats 2000000 in
set_option maxRecDepth 100000 in
theorem imply_item (F : Nat → Prop) (w : World) (q : Nat) (l : List It) (b : ByteArray) (h : LF_item F w q l) :
    Calls Try.prog 42 #[.pointer (some ⟨q, 0, none⟩), .string b] w fun e w' => e = .returned (.tuple #[]) ∧ LF_item F w' q (trim (implyP b) l) ∧ But F w w' := by
  have HL := Lib.hid h
  clear h
  go_enter Try.func42, Try.ntmps42
  go_wp2_with fail
  go_loopg [5] l.length (fun k c wr => ∃ (lr : List It), lr.length = k ∧ LF_item F wr q lr ∧ But F w wr ∧ trim (implyP b) l = trim (implyP b) lr)
  case atStart => exact ⟨l, rfl, HL.out, But.refl _ _, rfl⟩
  case round =>
    obtain ⟨lr, hlr, hlf, hbr, ht⟩ := hrel
    have HLF := Lib.hid hlf
    have HB := Lib.hid hbr
    have HT := Lib.hid ht
    clear hlf hbr ht
    rcases List.eq_nil_or_concat lr with rfl | ⟨l0, y, rfl⟩
    · go_wp2_with fail
      refine (topF_item F _ q _ HLF.out).mono ?_
      rintro e w2 ⟨rfl, b2⟩
      have HB2 := Lib.hid (HB.out.trans (S1 := fun _ => False) (But.of_below b2) (fun _ h => h.elim))
      have HLF2 := Lib.hid (HLF.out.keep b2)
      simp only [List.getLast?_nil, Option.elim, Option.isSome_none]
      go_wp2_with fail
      refine bodyPost_ret (results_none rfl _ _ _) rfl ?_
      exact ⟨rfl, by rw [HT.out]; exact HLF2.out.keep ((Below.refl _ _).alloc (Nat.le_refl _) _), HB2.out.alloc _⟩
    · rw [List.concat_eq_append] at *
      go_wp2_with fail
      refine (topF_item F _ q _ HLF.out).mono ?_
      rintro e w2 ⟨rfl, b2⟩
      have hb2 := HB.out.trans (S1 := fun _ => False) (But.of_below b2) (fun _ h => h.elim)
      have hb3 : But F w (w2.alloc (.cells (enc_item y).toArray 50)) := hb2.alloc _
      obtain ⟨hvc, _⟩ := var_item (x := y) (Blk.new w2 50 (enc_item y).toArray (0, 0))
      have c0 := hvc 0 _ rfl; have c1 := hvc 1 _ rfl; have c2 := hvc 2 _ rfl; have c3 := hvc 3 _ rfl
      have HB3 := Lib.hid hb3
      have HLF3 := Lib.hid ((HLF.out.keep b2).keep (w1 := w2.alloc (.cells (enc_item y).toArray 50)) ((Below.refl _ _).alloc (Nat.le_refl _) _))
      clear hvc hb2 hb3 b2
      unfold enc_item at c0 c1 c2 c3
      simp only [List.getLast?_append, List.getLast?_singleton, Option.some_or, Option.elim, Option.isSome_some, val_item]
      cases hp : implyP b y
      · have HP := Lib.hid (trim_stop (l := l0) hp)
        have hp' := hp
        unfold implyP at hp'
        cases hn : (y.ns == 1)
        · have hn' : (y.ns != 1) = true := by simp only [bne, hn]; rfl
          clear hp hp' hn
          go_wp2_with fail
          refine bodyPost_ret (results_none rfl _ _ _) rfl ?_
          exact ⟨rfl, by rw [HT.out, HP.out]; exact HLF3.out, HB3.out⟩
        · rw [hn, Bool.true_and] at hp'
          have hn' : (y.ns != 1) = false := by simp only [bne, hn]; rfl
          cases hi : inB y.name impliedN
          · have HI := Lib.hid (names_implied (w2.alloc (.cells #[.int .i64 y.h, .int .i64 y.ns, .string y.name, .slice y.a y.n y.c] 50)) y.name)
            rw [hi] at HI
            clear hp hp' hn hi
            go_wp2_with fail
            refine HI.out.mono ?_
            rintro e w5 ⟨rfl, rfl⟩
            go_wp2_with fail
            refine bodyPost_ret (results_none rfl _ _ _) rfl ?_
            exact ⟨rfl, by rw [HT.out, HP.out]; exact HLF3.out, HB3.out⟩
          · have HI := Lib.hid (names_implied (w2.alloc (.cells #[.int .i64 y.h, .int .i64 y.ns, .string y.name, .slice y.a y.n y.c] 50)) y.name)
            rw [hi, Bool.true_and] at hp'
            rw [hi] at HI
            have he : (y.name.toList == b.toList) = true := by simpa using hp'
            clear hp hp' hn hi
            go_wp2_with fail
            refine HI.out.mono ?_
            rintro e w5 ⟨rfl, rfl⟩
            go_wp2_with fail
            refine bodyPost_ret (results_none rfl _ _ _) rfl ?_
            exact ⟨rfl, by rw [HT.out, HP.out]; exact HLF3.out, HB3.out⟩
      · have HP := Lib.hid (trim_on (l := l0) hp)
        have hp' := hp
        unfold implyP at hp'
        simp only [Bool.and_eq_true] at hp'
        obtain ⟨hn, hi, he0⟩ := hp'
        have hn' : (y.ns != 1) = false := by simp only [bne, hn]; rfl
        have he : (y.name.toList == b.toList) = false := by simpa using he0
        have HI := Lib.hid (names_implied (w2.alloc (.cells #[.int .i64 y.h, .int .i64 y.ns, .string y.name, .slice y.a y.n y.c] 50)) y.name)
        rw [hi] at HI
        have hl0 : (l0 ++ [y]).length = l0.length + 1 := by simp
        clear hp hn hi he0
        go_wp2_with fail
        refine HI.out.mono ?_
        rintro e w5 ⟨rfl, rfl⟩
        go_wp2_with fail
        refine (popF_item F _ q l0 y HLF3.out).mono ?_
        rintro e w6 ⟨rfl, hlf6, b6⟩
        have HB6 := Lib.hid (HB3.out.trans b6 (fun k hk => .inl hk))
        have HLF6 := Lib.hid hlf6
        clear hlf6 b6
        go_wp2_with fail
        go_roundg l0.length
        case rel => exact ⟨l0, rfl, HLF6.out, HB6.out, by rw [HT.out, HP.out]⟩
        all_goals omega
end Go.Proofs.Ytoehpladbdefkaa
