/- arbourref8.Text. -/
import Derived.Test.YtjghkiphfpeocaaTok
import Derived.Test.YtjghkiphfpeocaaBase
import Derived.BigQuiet
import Derived.LoopN
namespace Go.Proofs.Ytjghkiphfpeocaa
open Go.RowKit Go.BigFrame

section
set_option maxHeartbeats 4000000
theorem rtext_other (kd : Int) (nm tx : ByteArray) (v2 v3 : Value) (o : ByteArray) (w : World) (hs : nm.size + tx.size + 10 ≤ 9223372036854775807)
    (h : (kd = 1 ∧ o = ⟨#[33]⟩ ++ nm) ∨ (kd = 3 ∧ o = ⟨#[47]⟩ ++ nm) ∨ (kd = 4 ∧ o = ⟨#[34]⟩ ++ tx) ∨ (kd = 5 ∧ o = ⟨#[45]⟩ ++ tx) ∨ (kd = 6 ∧ o = ⟨#[46]⟩) ∨ ((kd ≠ 1 ∧ kd ≠ 2 ∧ kd ≠ 3 ∧ kd ≠ 4 ∧ kd ≠ 5 ∧ kd ≠ 6) ∧ o = ⟨#[63]⟩)) :
    Calls Try.prog 30 #[.agg #[.int .i64 kd, .string nm, v2, v3, .string tx]] w fun e w' => e = .returned (.string o) ∧ Below w.heap.size w w' := by
  have HB0 := Lib.hid (below_tokG w #[.int .i64 kd, .string nm, v2, v3, .string tx])
  have hA := Blk.new w 34 #[.int .i64 kd, .string nm, v2, v3, .string tx] (0, 0)
  have k0 := hA.cell 0
  have k1 := hA.cell 1
  have k4 := hA.cell 4
  have q1 : ∀ b : ByteArray, b.size = 1 → b.size + nm.size ≤ 9223372036854775807 := by omega
  have q2 : ∀ b : ByteArray, b.size = 1 → b.size + tx.size ≤ 9223372036854775807 := by omega
  have r1 := q1 ⟨#[33]⟩ rfl
  have r2 := q1 ⟨#[47]⟩ rfl
  have r3 := q2 ⟨#[34]⟩ rfl
  have r4 := q2 ⟨#[45]⟩ rfl
  clear hA q1 q2
  rcases h with ⟨rfl, rfl⟩ | ⟨rfl, rfl⟩ | ⟨rfl, rfl⟩ | ⟨rfl, rfl⟩ | ⟨rfl, rfl⟩ | ⟨⟨n1, n2, n3, n4, n5, n6⟩, rfl⟩
  case' inr.inr.inr.inr.inr =>
    have d1 : (kd == 1) = false := beq_eq_false_iff_ne.2 n1
    have d2 : (kd == 2) = false := beq_eq_false_iff_ne.2 n2
    have d3 : (kd == 3) = false := beq_eq_false_iff_ne.2 n3
    have d4 : (kd == 4) = false := beq_eq_false_iff_ne.2 n4
    have d5 : (kd == 5) = false := beq_eq_false_iff_ne.2 n5
    have d6 : (kd == 6) = false := beq_eq_false_iff_ne.2 n6
    clear n1 n2 n3 n4 n5 n6
  all_goals
    go_enter Try.func30, Try.ntmps30
    go_wp2_with fail
    go_ret
    exact ⟨rfl, HB0.out⟩
theorem rtext_two (nm tx : ByteArray) (al : List At) (sf : Bool) (A : Option Addr) (c : Nat) (w : World) (hs : nm.size + tx.size + szA al + 10 ≤ 9223372036854775807) (hl : al.length ≤ 9223372036854775807) (h : RdA w A al.length al) :
    Calls Try.prog 30 #[.agg #[.int .i64 2, .string nm, .slice A al.length c, .bool sf, .string tx]] w fun e w' => e = .returned (.string (if sf = true then startX nm al ++ ⟨#[47]⟩ else startX nm al)) ∧ Below w.heap.size w w' := by
  have HB0 := Lib.hid (below_tokG w #[.int .i64 2, .string nm, .slice A al.length c, .bool sf, .string tx])
  have HA := Lib.hid (Blk.new w 34 #[.int .i64 2, .string nm, .slice A al.length c, .bool sf, .string tx] (0, 0))
  have HR := Lib.hid (h.keep HB0.out)
  have k0 := HA.out.cell 0
  have k1 := HA.out.cell 1
  have k2 := HA.out.cell 2
  have r1 : (⟨#[60]⟩ : ByteArray).size + nm.size ≤ 9223372036854775807 := by show 1 + nm.size ≤ _; omega
  clear h
  go_enter Try.func30, Try.ntmps30
  go_wp2_with fail
  clear k0 k1 k2
  obtain ⟨wa, hwa⟩ : ∃ wa, wa = w.alloc (.cells #[.int .i64 2, .string nm, .slice A al.length c, .bool sf, .string tx] 34) := ⟨_, rfl⟩
  rw [← hwa] at HB0 HA HR
  rw [show w.alloc (.cells #[.int .i64 2, .string nm, .slice A al.length c, .bool sf, .string tx] 34) = wa from hwa.symm]
  clear hwa
  go_loopw [3, 4] (fun o i wr => ∃ j : Nat, j ≤ al.length ∧ i = .int .i64 j ∧ o = .string (startX nm (al.take j)) ∧ Below wa.heap.size wa wr) (fun _ i _ => al.length - (intOf i).toNat)
  case atStart => exact ⟨0, Nat.zero_le _, rfl, rfl, Below.refl _ _⟩
  case round =>
    obtain ⟨j, hj, rfl, rfl, hb⟩ := hrel
    have HB := Lib.hid hb
    clear hb
    by_cases hlt : j < al.length
    · have d0 : decide ((j : Int) < (al.length : Int)) = true := decide_eq_true (by omega)
      obtain ⟨x, hx⟩ : ∃ x, al[j]? = some x := ⟨_, List.getElem?_eq_getElem hlt⟩
      obtain ⟨a1, rfl, k1, k2⟩ := rdA_at (HR.out.keep HB.out) hx
      have s1 : IntKind.i64.wrap ((j : Int) + 1) = (j : Int) + 1 := IntWalk.i64_in _ (by omega)
      have HX := Lib.hid (startX_take nm al hx)
      have hsz := startX_size nm (al.take (j + 1))
      have htk := szA_take al (j + 1)
      rw [HX.out, ByteArray.size_append] at hsz
      have hax : (attrX x).size = 1 + x.name.size + 1 + x.val.size := by
        unfold attrX
        rw [ByteArray.size_append, ByteArray.size_append, ByteArray.size_append]; rfl
      obtain ⟨o, ho⟩ : ∃ o, o = startX nm (al.take j) := ⟨_, rfl⟩
      rw [← ho] at hsz HX ⊢
      have r2 : o.size + (⟨#[32]⟩ : ByteArray).size ≤ 9223372036854775807 := by show o.size + 1 ≤ _; omega
      have r3 : (o ++ ⟨#[32]⟩).size + x.name.size ≤ 9223372036854775807 := by rw [ByteArray.size_append]; show o.size + 1 + x.name.size ≤ _; omega
      have r4 : ((o ++ ⟨#[32]⟩) ++ x.name).size + (⟨#[61]⟩ : ByteArray).size ≤ 9223372036854775807 := by rw [ByteArray.size_append, ByteArray.size_append]; show o.size + 1 + x.name.size + 1 ≤ _; omega
      have r5 : (((o ++ ⟨#[32]⟩) ++ x.name) ++ ⟨#[61]⟩).size + x.val.size ≤ 9223372036854775807 := by rw [ByteArray.size_append, ByteArray.size_append, ByteArray.size_append]; show o.size + 1 + x.name.size + 1 + x.val.size ≤ _; omega
      have HO := Lib.hid (show (((o ++ ⟨#[32]⟩) ++ x.name) ++ ⟨#[61]⟩) ++ x.val = o ++ attrX x by unfold attrX; simp only [ByteArray.append_assoc])
      clear ho
      have k9 := (HA.out.keep HB.out).cell 2
      have u2 := fun m : After wr => (HA.out.keep (below_both HB.out m.below)).cell 2
      have HK := Lib.hid (fun W (hW : Below wr.heap.size wr W) => rdA_at ((HR.out.keep HB.out).keep hW) hx)
      have u0 : ∀ m : After wr, m.W.cell? (a1.add (j * 2)) = some (.string x.name) := fun m => by obtain ⟨a, e, k0, k1⟩ := HK.out _ m.below; cases e; exact k0
      have u1 : ∀ m : After wr, m.W.cell? { a1.add (j * 2) with off := (a1.add (j * 2)).off + 1, spot := none } = some (.string x.val) := fun m => by obtain ⟨a, e, k0, k1⟩ := HK.out _ m.below; cases e; exact k1
      clear hx hsz htk hax k1 k2
      go_wp2_with fail
      refine wp_region_after (by kernel_rfl) (by kernel_rfl) ?_
      repeat (any_goals (go_big_quiet_step (fail)))
      refine wpQuiet_nil ?_
      rintro w' ⟨m, rfl⟩
      clear u0 u1 u2
      have HB2 := Lib.hid (below_both HB.out m.below)
      go_wp2_with fail
      exact ⟨⟨j + 1, by omega, by go_num, by rw [HX.out, ← HO.out], HB2.out⟩, by simp [intOf]; omega⟩
    · have d0 : decide ((j : Int) < (al.length : Int)) = false := decide_eq_false (by omega)
      have k9 := (HA.out.keep HB.out).cell 2
      have HE := Lib.hid (show startX nm (al.take j) = startX nm al by rw [List.take_of_length_le (by omega)])
      have k3 := (HA.out.keep HB.out).cell 3
      have HBB := Lib.hid (below_both HB0.out HB.out)
      have hsz := startX_size nm al
      rw [HE.out]
      have r5 : (startX nm al).size + (⟨#[47]⟩ : ByteArray).size ≤ 9223372036854775807 := by show _ + 1 ≤ _; omega
      clear hsz
      cases sf
      all_goals
        go_wp2_with fail
        go_ret
        exact ⟨rfl, HBB.out⟩
theorem rtext_any (t : Tk) (A : Option Addr) (c : Nat) (w : World) (hs : t.fits) (hl : t.al.length ≤ 9223372036854775807) (h : RdA w A t.al.length t.al) :
    Calls Try.prog 30 #[tkG t A c] w fun e w' => e = .returned (.string (textT t)) ∧ Below w.heap.size w w' := by
  obtain ⟨kd, nm, al, sf, tx⟩ := t
  unfold tkG textT
  unfold Tk.fits at hs
  simp only at *
  by_cases h2 : kd = 2
  · subst h2
    exact rtext_two nm tx al sf A c w hs hl h
  · refine rtext_other kd nm tx _ _ _ w (by omega) ?_
    by_cases h1 : kd = 1
    · exact .inl ⟨h1, by rw [if_pos h1]⟩
    · by_cases h3 : kd = 3
      · exact .inr (.inl ⟨h3, by rw [if_neg h1, if_neg h2, if_pos h3]⟩)
      · by_cases h4 : kd = 4
        · exact .inr (.inr (.inl ⟨h4, by rw [if_neg h1, if_neg h2, if_neg h3, if_pos h4]⟩))
        · by_cases h5 : kd = 5
          · exact .inr (.inr (.inr (.inl ⟨h5, by rw [if_neg h1, if_neg h2, if_neg h3, if_neg h4, if_pos h5]⟩)))
          · by_cases h6 : kd = 6
            · exact .inr (.inr (.inr (.inr (.inl ⟨h6, by rw [if_neg h1, if_neg h2, if_neg h3, if_neg h4, if_neg h5, if_pos h6]⟩))))
            · exact .inr (.inr (.inr (.inr (.inr ⟨⟨h1, h2, h3, h4, h5, h6⟩, by rw [if_neg h1, if_neg h2, if_neg h3, if_neg h4, if_neg h5, if_neg h6]⟩))))
end
end Go.Proofs.Ytjghkiphfpeocaa
