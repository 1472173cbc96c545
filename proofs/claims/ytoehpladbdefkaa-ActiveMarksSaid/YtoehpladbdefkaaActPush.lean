/- The list of active formatting: At, Push, each with what it answers. -/
import Derived.Test.YtoehpladbdefkaaActive
namespace Go.Proofs.Ytoehpladbdefkaa
open Go.RowKit

theorem lenA (B : Nat) (w : World) (q : Nat) (l : List Z) (h : LA B w q l) :
    Calls Try.prog 18 #[.pointer (some ⟨q, 0, none⟩)] w fun e w' => e = .returned (.int .i64 (l.length : Int)) ∧ w = w' := by
  have := lenL_entry B w q _ h.list
  rw [List.length_map] at this
  exact this
theorem atA (B : Nat) (w : World) (q : Nat) (l : List Z) (j : Nat) (z : Z) (h : LA B w q l) (hz : l[j]? = some z) :
    Calls Try.prog 19 #[.pointer (some ⟨q, 0, none⟩), .int .i64 (j : Int)] w fun e w' => e = .returned (.tuple #[val_entry z.1, .bool true]) ∧ Below w.heap.size w w' := by
  have := atL_entry B w q _ (j : Int) h.list
  rw [getL_nat, List.getElem?_map, hz] at this
  exact this
theorem atA_out (B : Nat) (w : World) (q : Nat) (l : List Z) (i : Int) (h : LA B w q l) (hi : i < 0 ∨ (l.length : Int) ≤ i) :
    Calls Try.prog 19 #[.pointer (some ⟨q, 0, none⟩), .int .i64 i] w fun e w' => e = .returned (.tuple #[val_entry zero_of_entry, .bool false]) ∧ Below w.heap.size w w' := by
  have := atL_entry B w q _ i h.list
  have hg : getL (l.map Prod.fst) i = none := by
    unfold getL
    split
    · rw [List.getElem?_eq_none]; rw [List.length_map]; omega
    · rfl
  rw [hg] at this
  exact this
/-- Alike a thing that is pushed. -/
def simN (name : ByteArray) (a : List At) (z : Z) : Bool := (z.2.name.toList == name.toList) && alikeA z.2.attrs a
theorem scanR_mark {α : Type} {mk p : α → Bool} {x : α} {r : List α} {s : Nat × Int} (h : mk x = true) : scanR mk p (x :: r) s = s := by simp [scanR, h]
theorem scanR_hit {α : Type} {mk p : α → Bool} {x : α} {r : List α} {n : Nat} {f : Int} (h : mk x = false) (hp : p x = true) : scanR mk p (x :: r) (n, f) = scanR mk p r (n + 1, (r.length : Int)) := by simp [scanR, h, hp]
theorem scanR_on {α : Type} {mk p : α → Bool} {x : α} {r : List α} {s : Nat × Int} (h : mk x = false) (hp : p x = false) : scanR mk p (x :: r) s = scanR mk p r s := by simp [scanR, h, hp]
theorem take_rev {α : Type} {l : List α} {m : Nat} {x : α} (h : l[m]? = some x) : (l.take (m + 1)).reverse = x :: (l.take m).reverse := by rw [List.take_add_one, h]; simp
theorem rev_len {α : Type} {l : List α} {m : Nat} (h : m ≤ l.length) : ((l.take m).reverse).length = m := by simp; omega

theorem rowA_parts {w : World} {base n c : Nat} {A : Option Addr} {l : List At} (h : RowA w base (.slice A n c) l) : (A = none → c = 0) ∧ ∀ ad, A = some ad → base ≤ ad.block ∧ ad.block < w.heap.size := by
  refine ⟨fun e => ?_, fun ad e => ?_⟩
  · subst e
    rcases h.2 with ⟨hv, _⟩ | ⟨g, cap, cur, hv, _⟩
    · cases hv; rfl
    · cases hv
  · subst e
    exact h.lt ad.block rfl

set_option maxHeartbeats 4000000 in
set_option maxRecDepth 100000 in
theorem pushP (p : Nat) (v : Value) (B : Nat) (w0 w : World) (q : Nat) (l : List Z) (h : Int) (name : ByteArray) (A : Option Addr) (n c : Nat) (a : List At) (hla : LAp p v B w0 q l) (hb0 : Below w0.heap.size w0 w) (ha : RdA w A n a) (hc0 : A = none → c = 0) (hap : ∀ ad, A = some ad → w0.heap.size ≤ ad.block)
    (hn : n ≤ 1000000) (hsz : l.length ≤ 1000000) :
    Calls Try.prog 15 #[.pointer (some ⟨q, 0, none⟩), .int .i64 h, .string name, .slice A n c] w fun e w' => e = .returned (.tuple #[]) ∧ ∃ (x : En) (v' : Value), LAp p v' B w' q (pushG mkZ (simN name a) l (x, ⟨false, h, name, a⟩)) ∧ But (foot p v) w w' ∧ Grown w v v' := by
  have hlw : LA B w q l := ⟨p, v, LAp.keep hla hb0⟩
  have HL := Lib.hid hlw
  have HL0 := Lib.hid hla
  have HA := Lib.hid ha
  have HB0 := Lib.hid hb0
  have HC0 := Lib.hid hc0
  have HAP := Lib.hid hap
  clear hla hlw ha hb0 hc0 hap
  have s1 : IntKind.i64.wrap ((l.length : Int) - 1) = (l.length : Int) - 1 := IntWalk.i64_in _ (by omega)
  go_enter Try.func15, Try.ntmps15
  go_wp2_with fail
  refine (lenA B w q l HL.out).mono ?_
  rintro e w1 ⟨rfl, rfl⟩
  go_upto_block 0 with (fail)
  go_cut [8, 9] (fun s8 s9 wx => ∃ (k : Nat) (f : Int), s8 = .int .i64 k ∧ s9 = .int .i64 f ∧ scanR mkZ (simN name a) l.reverse (0, -1) = (k, f) ∧ Below w.heap.size w wx)
  case first =>
    go_wp2_with fail
    go_loopw [10, 8, 9] (fun i s8 s9 wr => ∃ (j k : Nat) (f : Int), j ≤ l.length ∧ k + j ≤ l.length ∧ i = .int .i64 ((j : Int) - 1) ∧ s8 = .int .i64 k ∧ s9 = .int .i64 f ∧ Below w.heap.size w wr ∧ scanR mkZ (simN name a) l.reverse (0, -1) = scanR mkZ (simN name a) (l.take j).reverse (k, f)) (fun i _ _ _ => (intOf i + 1).toNat)
    case atStart => exact ⟨l.length, 0, -1, Nat.le_refl _, by omega, rfl, rfl, rfl, Below.refl _ _, by rw [List.take_of_length_le (Nat.le_refl _)]⟩
    case round =>
      obtain ⟨j, k, f, hj, hkj, rfl, rfl, rfl, hbr, ht⟩ := hrel
      have HT := Lib.hid ht
      have HB := Lib.hid hbr
      clear ht hbr
      cases j with
      | zero =>
        go_wp2_with fail
        go_meet
        exact ⟨k, f, rfl, rfl, by rw [HT.out]; rfl, HB.out⟩
      | succ m =>
        have e1 : (((m + 1 : Nat) : Int) - 1) = (m : Int) := by omega
        rw [e1]
        obtain ⟨z, hz⟩ : ∃ z, l[m]? = some z := ⟨_, List.getElem?_eq_getElem (by omega)⟩
        have s2 : IntKind.i64.wrap ((m : Int) - 1) = (m : Int) - 1 := IntWalk.i64_in _ (by omega)
        have s3 : IntKind.i64.wrap ((k : Int) + 1) = (k : Int) + 1 := IntWalk.i64_in _ (by omega)
        have ht := HT.out
        rw [take_rev hz] at ht
        have HST := Lib.hid ht
        have HAt := Lib.hid (atA B wr q l m z (HL.out.keep HB.out) hz)
        have HZ := Lib.hid (List.mem_of_getElem? hz)
        have HML := Lib.hid (rev_len (l := l) (m := m) (by omega))
        clear ht hz
        go_wp2_with fail
        refine HAt.out.mono ?_
        rintro e w2 ⟨rfl, b2⟩
        have hb3 : Below wr.heap.size wr (w2.alloc (.cells (enc_entry z.1).toArray 33)) := b2.alloc b2.size _
        have hb03 := below_both HB.out hb3
        obtain ⟨hvc, _⟩ := var_entry (x := z.1) (Blk.new w2 33 (enc_entry z.1).toArray (0, 0))
        have c0 := hvc 0 _ rfl; have c1 := hvc 1 _ rfl; have c2 := hvc 2 _ rfl; have c3 := hvc 3 _ rfl
        obtain ⟨F, hrep⟩ := (HL.out.keep hb03).rep HZ.out
        have hal := alike_at _ z.1.a A z.1.n z.1.c n c z.2.attrs a hrep.attrs (HA.out.keep hb03) (by have := hrep.few; omega) (by omega)
        obtain ⟨bm, hbm⟩ : ∃ b, z.2.marker = b := ⟨_, rfl⟩
        obtain ⟨bn, hbn⟩ : ∃ b, (z.1.name.toList == name.toList) = b := ⟨_, rfl⟩
        obtain ⟨ba, hba⟩ : ∃ b, alikeA z.2.attrs a = b := ⟨_, rfl⟩
        have hsim : simN name a z = (bn && ba) := by unfold simN; rw [← hrep.name, hbn, hba]
        rw [hba] at hal
        have hmk : z.1.marker = bm := by rw [hrep.marker, hbm]
        have hmkz : mkZ z = bm := hbm
        have HAL := Lib.hid hal
        have HB3 := Lib.hid hb03
        have HSIM := Lib.hid hsim
        have HMK := Lib.hid hmkz
        unfold enc_entry at c0 c1 c2 c3
        rw [hmk] at c0 c1 c2 c3
        unfold enc_entry at HAL HB3
        rw [hmk] at HAL HB3
        clear hvc b2 hb3 hb03 hrep hal hsim hba hbm
        simp only [val_entry]
        rw [hmk]
        clear hmk hmkz
        cases bm
        · cases bn
          · go_wp2_with fail
            exact ⟨⟨m, k, f, by omega, by omega, rfl, rfl, rfl, HB3.out, by rw [HST.out, scanR_on HMK.out HSIM.out]⟩, by simp [intOf]⟩
          · go_wp2_with fail
            refine HAL.out.mono ?_
            rintro e w4 ⟨rfl, b4⟩
            have HB4 := Lib.hid (below_both HB3.out b4)
            clear b4
            cases ba
            · go_wp2_with fail
              exact ⟨⟨m, k, f, by omega, by omega, rfl, rfl, rfl, HB4.out, by rw [HST.out, scanR_on HMK.out HSIM.out]⟩, by simp [intOf]⟩
            · go_wp2_with fail
              refine ⟨⟨m, k + 1, (m : Int), by omega, by omega, rfl, by go_num, rfl, HB4.out, ?_⟩, by simp [intOf]⟩
              rw [HST.out, scanR_hit HMK.out HSIM.out, HML.out]
        · go_wp2_with fail
          go_meet
          exact ⟨k, f, rfl, rfl, by rw [HST.out, scanR_mark HMK.out], HB3.out⟩
  case rest =>
    obtain ⟨k, f, rfl, rfl, hsc, hb⟩ := hcut
    have HSC := Lib.hid hsc
    have HB := Lib.hid hb
    clear hsc hb
    go_upto_if 42 with (fail)
    go_cut [8] (fun _ wx => ∃ v1, LAp p v1 B wx q (if 3 ≤ k then cutL l f.toNat else l) ∧ But (foot p v) w wx ∧ v1.ownBlock = v.ownBlock ∧ RdA wx A n a)
    case first =>
      have hLA1 : LAp p v B wc q l := LAp.keep HL0.out (below_both HB0.out HB.out)
      by_cases hk : 3 ≤ k
      · have d0 : decide ((k : Int) ≥ 3) = true := decide_eq_true (by omega)
        have hpl := scanR_place (mk := mkZ) (p := simN name a) (l := l) (by rw [HSC.out]; exact hk)
        rw [HSC.out] at hpl
        obtain ⟨j, hfj, hj⟩ := hpl
        simp only at hfj
        subst hfj
        obtain ⟨z, hz⟩ : ∃ z, l[j]? = some z := ⟨_, List.getElem?_eq_getElem hj⟩
        obtain ⟨hq, hp, hn0, hf, hBq, hBw, hr⟩ := HL0.out
        have hb1 := below_both HB0.out HB.out
        have h0 := (hq.keep hb1).cell 0
        have HP := Lib.hid (cut_in_entry _ p v (l.map Prod.fst) j z.1 (hp.keep hb1) (by rw [List.getElem?_map, hz]; rfl))
        have HT := Lib.hid (fun (w1 : World) (v1 : Value) (hs : Pile_entry w1 p v1 ((cutL l j).map Prod.fst)) (hb : But (foot p v) wc w1) (hv : v1.ownBlock = v.ownBlock) =>
          LA.turn (B := B) (l := l) (l1 := cutL l j) (hq.keep hb1) hn0 hf hBq (Nat.le_trans hBw hb1.size) (fun z hz => (hr z hz).keep hb1) hs hb (.inl hv) (fun z hz => .inl (by
            unfold cutL at hz
            rcases List.mem_append.1 hz with h | h
            · exact List.mem_of_mem_take h
            · exact List.mem_of_mem_drop h)))
        have HFO := Lib.hid (fun k hk => hp.lt (k := k) hk)
        have HQ := Lib.hid hz
        clear hq hp hr hz hLA1 hb1
        go_wp2_with fail
        refine HP.out.mono ?_
        rintro e w2 ⟨v2, rfl, hs2, hb2, hv2⟩
        have hT := HT.out w2 v2 (by unfold cutL at hs2 ⊢; simpa [List.map_take, List.map_drop] using hs2) hb2 hv2
        have HT2 := Lib.hid hT
        have HBT := Lib.hid hb2
        have HV2 := Lib.hid hv2
        have HRd := Lib.hid ((HA.out.keep HB.out).but hb2 (fun ad e hk => by have := HAP.out ad e; have := HFO.out _ hk; omega))
        clear hs2 hb2 hT hv2
        go_wp2_with fail
        go_meet
        rw [if_pos hk]
        exact ⟨_, HT2.out.1, below_But HB.out HBT.out, HV2.out, HRd.out⟩
      · have d0 : decide ((k : Int) ≥ 3) = false := decide_eq_false (by omega)
        have HLA1 := Lib.hid hLA1
        clear hLA1
        go_wp2_with fail
        go_meet
        rw [if_neg hk]
        exact ⟨v, HLA1.out, But.of_below HB.out, rfl, HA.out.keep HB.out⟩
    case rest =>
      obtain ⟨v1, hla, hb2, hv1, hrd⟩ := hcut
      have HV1 := Lib.hid hv1
      have HFT := Lib.hid (show ∀ k, foot p v1 k → foot p v k from fun k hk => by
        rcases hk with hk | hk
        · exact .inl hk
        · exact .inr (hv1 ▸ hk))
      have hpush : Hid (∀ x, pushG mkZ (simN name a) l x = (if 3 ≤ k then cutL l f.toNat else l) ++ [x]) := fun x => by unfold pushG; rw [HSC.out]
      have hlen : (if 3 ≤ k then cutL l f.toNat else l).length ≤ 1000000 := by
        split
        · have := List.length_take_le f.toNat l; unfold cutL; rw [List.length_append, List.length_take, List.length_drop]; omega
        · exact hsz
      generalize (if 3 ≤ k then cutL l f.toNat else l) = l1 at *
      have HB2 := Lib.hid hb2
      obtain ⟨hq, hp, hn0, hf, hBq, hBw, hr⟩ := hla
      have h0 := hq.cell 0
      have HQ := Lib.hid hq
      have HP := Lib.hid hp
      have HR := Lib.hid hr
      have HRD := Lib.hid hrd
      have hq0 : Hid (wc.drew.cell? ⟨q, 0, none⟩ = some (.pointer (some ⟨p, 0, none⟩))) := (hq.keep (made_drew wc)).cell 0
      clear hq hp hr hrd hb2 hv1
      go_wp2_with fail
      go_region_held3 (fun W => W.cell? ⟨q, 0, none⟩ = some (.pointer (some ⟨p, 0, none⟩)))
        (first | exact hq0.out | exact hq2.out | exact hq3.out)
        (first
          | (go_at_call 59
             refine (clone_at _ A n c a (HRD.out.keep (made_drew _)) (by omega) HC0.out).mono ?_
             rintro e w3 ⟨v3, rfl, hrow3, b3⟩
             obtain ⟨A3, c3, hv3, hr3⟩ := hrow3.read
             subst hv3
             have hb3 : Below wc.heap.size wc w3 := below_then (made_drew wc) (made_drew wc).size b3
             have hq2 : Hid (w3.cell? ⟨q, 0, none⟩ = some (.pointer (some ⟨p, 0, none⟩))) := (HQ.out.keep hb3).cell 0
             have hp3 := HP.out.keep hb3
             have HP3 := Lib.hid hp3
             have HB3 := Lib.hid hb3
             have HR3 := Lib.hid hr3
             have HRow3 := Lib.hid hrow3
             clear hp3 hb3 hr3 hrow3)
          | (go_at_call 55
             refine (push_entry _ p v1 (l1.map Prod.fst) ⟨false, h, name, A3, a.length, c3⟩ HP3.out (by rw [List.length_map]; omega)).mono ?_
             rintro e w4 ⟨v4, rfl, hs4, hb4, hg4⟩
             have hq3 : Hid (w4.cell? ⟨q, 0, none⟩ = some (.pointer (some ⟨p, 0, none⟩))) := ((HQ.out.keep HB3.out).but hb4 hn0).cell 0))
      go_end0
      have hap3 := rowA_parts HRow3.out
      have hz4 : EnRep w4 (foot p v4) ⟨false, h, name, A3, a.length, c3⟩ ⟨false, h, name, a⟩ := by
        refine ⟨rfl, rfl, rfl, HR3.out.but hb4 (fun ad e hk => ?_), hap3.1, by rw [← HRD.out.1]; exact hn, fun ad e => ⟨Nat.lt_of_lt_of_le (hap3.2 ad e).2 hb4.size, fun hk => ?_⟩⟩
        · have h1 := (hap3.2 ad e).1
          have h2 := HP.out.lt hk
          exact absurd h1 (by simp; omega)
        · have h1 := hap3.2 ad e
          rcases hg4.foot p hk with hk | hk
          · have h2 := HP.out.lt hk
            exact absurd h1.1 (by simp; omega)
          · omega
      have hT := LA.turn (B := B) (l := l1) (l1 := l1 ++ [(⟨false, h, name, A3, a.length, c3⟩, ⟨false, h, name, a⟩)]) (HQ.out.keep HB3.out) hn0 hf hBq (Nat.le_trans hBw HB3.out.size) (fun z hz => (HR.out z hz).keep HB3.out) (by simpa using hs4) hb4 hg4 (fun z hz => by
        rcases List.mem_append.1 hz with h | h
        · exact .inl h
        · simp at h
          subst h
          exact .inr hz4)
      refine ⟨rfl, ⟨false, h, name, A3, a.length, c3⟩, v4, by rw [hpush.out]; exact hT.1, ?_, ?_⟩
      · exact (HB2.out.trans (S1 := fun _ => False) (But.of_below HB3.out) (fun _ h => h.elim)).trans hb4 (fun k hk => .inl (HFT.out k hk))
      · have hg : Grown w v v1 := .inl HV1.out
        exact hg.trans (Nat.le_trans HB2.out.size HB3.out.size) hg4

theorem pushA (B : Nat) (w0 w : World) (q : Nat) (l : List Z) (h : Int) (name : ByteArray) (A : Option Addr) (n c : Nat) (a : List At) (hla : LA B w0 q l) (hb0 : Below w0.heap.size w0 w) (ha : RdA w A n a) (hc0 : A = none → c = 0) (hap : ∀ ad, A = some ad → w0.heap.size ≤ ad.block)
    (hn : n ≤ 1000000) (hsz : l.length ≤ 1000000) :
    Calls Try.prog 15 #[.pointer (some ⟨q, 0, none⟩), .int .i64 h, .string name, .slice A n c] w fun e w' => e = .returned (.tuple #[]) ∧ (∃ x : En, LA B w' q (pushG mkZ (simN name a) l (x, ⟨false, h, name, a⟩))) ∧ Below B w w' := by
  obtain ⟨p, v, hla⟩ := hla
  refine (pushP p v B w0 w q l h name A n c a hla hb0 ha hc0 hap hn hsz).mono ?_
  rintro e w' ⟨he, x, v', h1, h2, _⟩
  exact ⟨he, ⟨x, p, v', h1⟩, h2.below hla.2.2.2.1 (Nat.le_trans hla.2.2.2.2.2.1 hb0.size)⟩
end Go.Proofs.Ytoehpladbdefkaa
