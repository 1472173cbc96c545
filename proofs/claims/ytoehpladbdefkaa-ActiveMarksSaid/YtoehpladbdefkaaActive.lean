/- The list of active formatting: New, Len, At, Mark, Clear, Push, each with what it answers. -/
import Derived.Test.YtoehpladbdefkaaActL
import Derived.Test.YtoehpladbdefkaaLstEntry
import Derived.Test.YtoehpladbdefkaaAttrs5
import Derived.Deep.RegionHeld3
import Derived.Deep.DeepCutAuto
import Derived.Deep.CutBlock
import Derived.Deep.LoopGhost
namespace Go.Proofs.Ytoehpladbdefkaa
open Go.RowKit

/-- An entry as the document has it. -/
structure E0 where
  marker : Bool
  h : Int
  name : ByteArray
  attrs : List At
theorem cell_but {S : Nat → Prop} {w w1 : World} (h : But S w w1) {a : Addr} {v : Value} (hn : ¬ S a.block) (hc : w.cell? a = some v) : w1.cell? a = some v := by
  have hlt := World.block_lt_of_cell? w a hc
  rw [← hc]
  unfold World.cell?
  rw [h.block _ hlt hn]
theorem RdA.but {S : Nat → Prop} {w w1 : World} {A : Option Addr} {n : Nat} {l : List At} (h : RdA w A n l) (hb : But S w w1) (hn : ∀ ad, A = some ad → ¬ S ad.block) : RdA w1 A n l :=
  ⟨h.1, h.2.1, h.2.2.1, fun h0 => let ⟨ad, e, hc⟩ := h.2.2.2 h0; ⟨ad, e, fun j u hu => cell_but hb (by rw [show (ad.add j).block = ad.block by unfold Addr.add; split <;> rfl]; exact hn ad e) (hc j u hu)⟩⟩
structure EnRep (w : World) (F : Nat → Prop) (x : En) (e : E0) : Prop where
  marker : x.marker = e.marker
  h : x.h = e.h
  name : x.name = e.name
  attrs : RdA w x.a x.n e.attrs
  nil : x.a = none → x.c = 0
  few : x.n ≤ 1000000
  apart : ∀ ad, x.a = some ad → ad.block < w.heap.size ∧ ¬ F ad.block
theorem EnRep.next {w w1 : World} {p : Nat} {v v1 : Value} {x : En} {e : E0} (h : EnRep w (foot p v) x e) (hb : But (foot p v) w w1) (hg : Grown w v v1) : EnRep w1 (foot p v1) x e :=
  ⟨h.marker, h.h, h.name, h.attrs.but hb (fun ad e => (h.apart ad e).2), h.nil, h.few, fun ad e => ⟨Nat.lt_of_lt_of_le (h.apart ad e).1 hb.size, fun hk => by
    rcases hg.foot p hk with hf | hf
    · exact (h.apart ad e).2 hf
    · have := (h.apart ad e).1; omega⟩⟩
theorem EnRep.keep {w w1 : World} {F : Nat → Prop} {x : En} {e : E0} (h : EnRep w F x e) (hb : Below w.heap.size w w1) : EnRep w1 F x e :=
  ⟨h.marker, h.h, h.name, h.attrs.keep hb, h.nil, h.few, fun ad e => ⟨Nat.lt_of_lt_of_le (h.apart ad e).1 hb.size, (h.apart ad e).2⟩⟩
abbrev Z := En × E0
/-- A list of active formatting, all of it B or younger, with its pile. -/
abbrev LAp (p : Nat) (v : Value) (B : Nat) (w : World) (q : Nat) (l : List Z) : Prop := Blk w q 86 #[.pointer (some ⟨p, 0, none⟩)] (0, 0) ∧ Pile_entry w p v (l.map Prod.fst) ∧ ¬ foot p v q ∧ (∀ k, foot p v k → B ≤ k) ∧ B ≤ q ∧ B ≤ w.heap.size ∧
  ∀ z ∈ l, EnRep w (foot p v) z.1 z.2
def LA (B : Nat) (w : World) (q : Nat) (l : List Z) : Prop := ∃ p v, LAp p v B w q l
theorem LAp.keep {p : Nat} {v : Value} {B : Nat} {w w1 : World} {q : Nat} {l : List Z} (h : LAp p v B w q l) (hb : Below w.heap.size w w1) : LAp p v B w1 q l := by
  obtain ⟨h1, h2, h3, h4, h5, h6, h7⟩ := h
  exact ⟨h1.keep hb, h2.keep hb, h3, h4, h5, Nat.le_trans h6 hb.size, fun z hz => (h7 z hz).keep hb⟩
theorem LA.list {B : Nat} {w : World} {q : Nat} {l : List Z} (h : LA B w q l) : LB_entry B w q (l.map Prod.fst) := by
  obtain ⟨p, v, h1, h2, h3, h4, h5, h6, _⟩ := h
  exact ⟨p, v, h1, h2, h3, h4, h5, h6⟩
theorem LA.le {B : Nat} {w : World} {q : Nat} {l : List Z} (h : LA B w q l) : B ≤ w.heap.size := h.list.le
theorem LA.len {B : Nat} {w : World} {q : Nat} {l : List Z} (h : LA B w q l) : l.length ≤ 9223372036854775807 := by have := h.list.len; simpa using this
theorem LA.keep {B : Nat} {w w1 : World} {q : Nat} {l : List Z} (h : LA B w q l) (hb : Below w.heap.size w w1) : LA B w1 q l := by
  obtain ⟨p, v, h1, h2, h3, h4, h5, h6, h7⟩ := h
  exact ⟨p, v, h1.keep hb, h2.keep hb, h3, h4, h5, Nat.le_trans h6 hb.size, fun z hz => (h7 z hz).keep hb⟩
theorem LA.rep {B : Nat} {w : World} {q : Nat} {l : List Z} (h : LA B w q l) {z : Z} (hz : z ∈ l) : ∃ F, EnRep w F z.1 z.2 := by
  obtain ⟨p, v, _, _, _, _, _, _, h7⟩ := h
  exact ⟨_, h7 z hz⟩
theorem LA.turn {B : Nat} {w w1 : World} {q p : Nat} {v v1 : Value} {l l1 : List Z} (hq : Blk w q 86 #[.pointer (some ⟨p, 0, none⟩)] (0, 0)) (hn : ¬ foot p v q) (hf : ∀ k, foot p v k → B ≤ k) (hBq : B ≤ q) (hB : B ≤ w.heap.size) (hr : ∀ z ∈ l, EnRep w (foot p v) z.1 z.2)
    (hs : Pile_entry w1 p v1 (l1.map Prod.fst)) (hb : But (foot p v) w w1) (hg : Grown w v v1) (hl : ∀ z ∈ l1, z ∈ l ∨ EnRep w1 (foot p v1) z.1 z.2) : LAp p v1 B w1 q l1 ∧ Below B w w1 := by
  refine ⟨⟨hq.but hb hn, hs, fun hk => ?_, fun k hk => ?_, hBq, Nat.le_trans hB hb.size, fun z hz => ?_⟩, hb.below hf hB⟩
  · rcases hg.foot p hk with h | h
    · exact hn h
    · have := hq.lt; omega
  · rcases hg.foot p hk with h | h
    · exact hf k h
    · omega
  · rcases hl z hz with h | h
    · exact (hr z h).next hb hg
    · exact h

theorem newA (B : Nat) (w : World) (hB : B ≤ w.heap.size) :
    Calls Try.prog 12 #[] w fun e w' => ∃ q, e = .returned (.pointer (some ⟨q, 0, none⟩)) ∧ LA B w' q [] ∧ Below w.heap.size w w' := by
  refine (newL_entry B w hB).mono ?_
  rintro e w' ⟨q, he, ⟨p, v, h1, h2, h3, h4, h5, h6⟩, hb⟩
  exact ⟨q, he, ⟨p, v, h1, h2, h3, h4, h5, h6, by simp⟩, hb⟩

set_option maxHeartbeats 1000000 in
set_option maxRecDepth 100000 in
theorem markP (p : Nat) (v : Value) (B : Nat) (w : World) (q : Nat) (l : List Z) (h : LAp p v B w q l) (hsz : l.length ≤ 1000000) :
    Calls Try.prog 13 #[.pointer (some ⟨q, 0, none⟩)] w fun e w' => e = .returned (.tuple #[]) ∧ ∃ v', LAp p v' B w' q (l ++ [(⟨true, 0, ⟨#[]⟩, none, 0, 0⟩, ⟨true, 0, ⟨#[]⟩, []⟩)]) ∧ But (foot p v) w w' ∧ Grown w v v' := by
  obtain ⟨hq, hp, hn, hf, hBq, hB, hr⟩ := h
  have h0 := hq.cell 0
  have HP := Lib.hid (push_entry w p v _ ⟨true, 0, ⟨#[]⟩, none, 0, 0⟩ hp (by rw [List.length_map]; omega))
  have HQ := Lib.hid hq
  have HR := Lib.hid hr
  clear hq hp hr
  go_enter Try.func13, Try.ntmps13
  go_wp2_with fail
  refine HP.out.mono ?_
  rintro e w1 ⟨v1, rfl, hs1, hb1, hg1⟩
  have hT := LA.turn (l1 := l ++ [(⟨true, 0, ⟨#[]⟩, none, 0, 0⟩, ⟨true, 0, ⟨#[]⟩, []⟩)]) HQ.out hn hf hBq hB HR.out (by simpa using hs1) hb1 hg1 (fun z hz => by
    rcases List.mem_append.1 hz with h | h
    · exact .inl h
    · simp at h
      subst h
      exact .inr ⟨rfl, rfl, rfl, RdA.nil' _, fun _ => rfl, by simp, fun ad e => by cases e⟩)
  have HT := Lib.hid hT
  have HBT := Lib.hid hb1
  have HG := Lib.hid hg1
  clear hs1 hb1 hg1 hT
  go_wp2_with fail
  go_end0
  exact ⟨rfl, _, HT.out.1, HBT.out, HG.out⟩

theorem markA (B : Nat) (w : World) (q : Nat) (l : List Z) (h : LA B w q l) (hsz : l.length ≤ 1000000) :
    Calls Try.prog 13 #[.pointer (some ⟨q, 0, none⟩)] w fun e w' => e = .returned (.tuple #[]) ∧ LA B w' q (l ++ [(⟨true, 0, ⟨#[]⟩, none, 0, 0⟩, ⟨true, 0, ⟨#[]⟩, []⟩)]) ∧ Below B w w' := by
  obtain ⟨p, v, h⟩ := h
  refine (markP p v B w q l h hsz).mono ?_
  rintro e w' ⟨he, v', h1, h2, _⟩
  exact ⟨he, ⟨p, v', h1⟩, h2.below h.2.2.2.1 h.2.2.2.2.2.1⟩

def mkZ (z : Z) : Bool := z.2.marker
set_option maxHeartbeats 2000000 in
set_option maxRecDepth 100000 in
theorem clearP (p : Nat) (v : Value) (B : Nat) (w : World) (q : Nat) (l : List Z) (h : LAp p v B w q l) :
    Calls Try.prog 14 #[.pointer (some ⟨q, 0, none⟩)] w fun e w' => e = .returned (.tuple #[]) ∧ ∃ v', LAp p v' B w' q (clearG mkZ l) ∧ But (foot p v) w w' ∧ v'.ownBlock = v.ownBlock := by
  have HL := Lib.hid h
  clear h
  go_enter Try.func14, Try.ntmps14
  go_wp2_with fail
  go_loopg [3] l.length (fun k _ wr => ∃ (lr : List Z) (vr : Value), lr.length = k ∧ LAp p vr B wr q lr ∧ But (foot p v) w wr ∧ vr.ownBlock = v.ownBlock ∧ clearG mkZ l = clearG mkZ lr)
  case atStart => exact ⟨l, v, rfl, HL.out, But.refl _ _, rfl, rfl⟩
  case round =>
    obtain ⟨lr, vr, hlr, hla, hbr, hvr, ht⟩ := hrel
    have HBr := Lib.hid hbr
    have HV := Lib.hid hvr
    have HFT := Lib.hid (show ∀ k, foot p vr k → foot p v k from fun k hk => by
      rcases hk with hk | hk
      · exact .inl hk
      · exact .inr (hvr ▸ hk))
    have HT := Lib.hid ht
    clear hbr ht hvr
    obtain ⟨hq, hp, hn, hf, hBq, hBw, hr⟩ := hla
    have h0 := hq.cell 0
    have HQ := Lib.hid hq
    have HR := Lib.hid hr
    rcases List.eq_nil_or_concat lr with rfl | ⟨l0, z, rfl⟩
    · have HP := Lib.hid (pop_none_entry wr p vr hp)
      have HLA := Lib.hid (show LAp p vr B wr q [] from ⟨hq, hp, hn, hf, hBq, hBw, hr⟩)
      clear hq hp hr
      go_wp2_with fail
      refine HP.out.mono ?_
      rintro e w2 ⟨rfl, b2⟩
      have hb3 : Below wr.heap.size wr (w2.alloc (.cells (enc_entry zero_of_entry).toArray 33)) := b2.alloc b2.size _
      have HLA3 := Lib.hid (LAp.keep HLA.out hb3)
      have HB3 := Lib.hid (HBr.out.trans (S1 := fun _ => False) (But.of_below hb3) (fun _ h => h.elim))
      clear b2 hb3
      go_wp2_with fail
      refine bodyPost_ret (results_none rfl _ _ _) rfl ?_
      exact ⟨rfl, vr, by rw [HT.out]; exact HLA3.out, HB3.out, HV.out⟩
    · rw [List.concat_eq_append] at *
      rw [List.map_append] at hp
      have HP := Lib.hid (pop_some_entry wr p vr (l0.map Prod.fst) z.1 hp)
      clear hq hp hr
      have hl0 : (l0 ++ [z]).length = l0.length + 1 := by simp
      have hmz : z.1.marker = z.2.marker := (HR.out z (by simp)).marker
      obtain ⟨bm, hbm⟩ : ∃ b, z.1.marker = b := ⟨_, rfl⟩
      have HM := Lib.hid hbm
      have HMZ := Lib.hid hmz
      clear hmz
      simp only [val_entry] at HP
      rw [hbm] at HP
      go_wp2_with fail
      refine HP.out.mono ?_
      rintro e w2 ⟨v2, rfl, hs2, hb2, hv2⟩
      obtain ⟨hla2, hbb2⟩ := LA.turn (l1 := l0) HQ.out hn hf hBq hBw HR.out hs2 hb2 (.inl hv2) (fun z hz => .inl (List.mem_append_left _ hz))
      have hb3 : Below w2.heap.size w2 (w2.alloc (.cells #[.bool bm, .int .i64 z.1.h, .string z.1.name, .slice z.1.a z.1.n z.1.c] 33)) := (Below.refl _ _).alloc (Nat.le_refl _) _
      have HLA3 := Lib.hid (LAp.keep hla2 hb3)
      have HB3 := Lib.hid ((HBr.out.trans hb2 (fun k hk => .inl (HFT.out k hk))).trans (S1 := fun _ => False) (But.of_below hb3) (fun _ h => h.elim))
      have HV2 := Lib.hid (hv2.trans HV.out)
      clear hs2 hb2 hv2 hla2 hbb2 hb3 hbm
      cases bm
      · have HC := Lib.hid (clearG_on (mk := mkZ) (l := l0) (x := z) (by show z.2.marker = false; rw [← HMZ.out]; exact HM.out))
        go_wp2_with fail
        go_roundg l0.length
        case rel => exact ⟨l0, v2, rfl, HLA3.out, HB3.out, HV2.out, by rw [HT.out, HC.out]⟩
        all_goals omega
      · have HC := Lib.hid (clearG_hit (mk := mkZ) (l := l0) (x := z) (by show z.2.marker = true; rw [← HMZ.out]; exact HM.out))
        go_wp2_with fail
        refine bodyPost_ret (results_none rfl _ _ _) rfl ?_
        exact ⟨rfl, v2, by rw [HT.out, HC.out]; exact HLA3.out, HB3.out, HV2.out⟩
theorem clearA (B : Nat) (w : World) (q : Nat) (l : List Z) (h : LA B w q l) :
    Calls Try.prog 14 #[.pointer (some ⟨q, 0, none⟩)] w fun e w' => e = .returned (.tuple #[]) ∧ LA B w' q (clearG mkZ l) ∧ Below B w w' := by
  obtain ⟨p, v, h⟩ := h
  refine (clearP p v B w q l h).mono ?_
  rintro e w' ⟨he, v', h1, h2, _⟩
  exact ⟨he, ⟨p, v', h1⟩, h2.below h.2.2.2.1 h.2.2.2.2.2.1⟩
end Go.Proofs.Ytoehpladbdefkaa
