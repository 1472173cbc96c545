/- arbourref5.Named: the longest name that a text begins with. -/
import Derived.Test.YtdjeajbinpgpiaaGreatJLexerTells9
import Derived.Test.YtdjeajbinpgpiaaGreatJLexerTellsTabR
namespace Go.Proofs.YtdjeajbinpgpiaaGreat
open Go.RowKit
theorem rtable_at (w : World) :
    Calls Tryz.prog 103 #[] w fun e w' => ∃ ad, e = .returned (.slice (some ad) 102 102) ∧ TabAt w' ad ∧ Below w.heap.size w w' :=
  (rtable_any w).mono fun _ _ ⟨he, hw⟩ => ⟨_, he, hw ▸ tab_new w _, hw ▸ (Below.refl _ _).alloc (Nat.le_refl _) _⟩

theorem tab_two {w : World} {ad : Addr} {j m : Nat} {x : ByteArray × ByteArray} (hc : TabAt w ad) (hx : tabT[j]? = some x) (hm : m = j * 2) :
    w.cell? (ad.add m) = some (.string x.1) ∧ w.cell? (ad.add (m + 1)) = some (.string x.2) := by
  subst hm
  have k0 := hc (j * 2 + 0) _ (row_at encOk_R tabT j 0 x _ hx rfl)
  have k1 := hc (j * 2 + 1) _ (row_at encOk_R tabT j 1 x _ hx rfl)
  exact ⟨k0, k1⟩
theorem prefix_eq (s x : ByteArray) (h : x.size ≤ s.size) : ((s.extract 0 x.size).toList == x.toList) = Lib.hasPrefix (B s) (B x) := by
  have := occ_take (B s) (B x) 0 (by rw [← size_B, ← size_B]; omega)
  rw [toList_B, toList_B, B_piece, size_B, Nat.sub_zero]
  exact this
theorem prefix_short (s x : ByteArray) (h : ¬ x.size ≤ s.size) : Lib.hasPrefix (B s) (B x) = false := by
  cases hp : Lib.hasPrefix (B s) (B x) with
  | false => rfl
  | true =>
    have := (List.isPrefixOf_iff_prefix.1 hp).length_le
    rw [← size_B, ← size_B] at this
    exact absurd this h

set_option maxHeartbeats 4000000 in
set_option maxRecDepth 100000 in
theorem rnamed_any (s : ByteArray) (w : World) :
    Calls Tryz.prog 83 #[.string s] w fun e w' => e = .returned (.tuple #[.string (namedR (B s)).2, .int .i64 (namedR (B s)).1.size]) ∧ Below w.heap.size w w' := by
  go_enter Tryz.func83, Tryz.ntmps83
  go_wp2_with fail
  refine (rtable_at _).mono ?_
  rintro e w1 ⟨ad, rfl, ht, hb⟩
  have HT1 := Lib.hid ht
  have HB1 := Lib.hid hb
  clear ht hb
  go_wp2_with fail
  go_loopw [7, 5, 6] (fun i bv nv wr => ∃ (j m : Nat) (b : ByteArray × ByteArray), j ≤ 51 ∧ m ≤ 102 ∧ Hid (m = j * 2) ∧ i = .int .i64 m ∧ bv = .string b.2 ∧ nv = .int .i64 b.1.size ∧ Hid (foldT (B s) j = b) ∧ TabAt wr ad ∧ Below w.heap.size w wr) (fun i _ _ _ => 102 - (intOf i).toNat)
  case atStart => exact ⟨0, 0, (⟨#[]⟩, ⟨#[]⟩), by omega, by omega, rfl, rfl, rfl, rfl, rfl, HT1.out, HB1.out⟩
  case round =>
    obtain ⟨j, m, ⟨b1, b2⟩, hj, hm, HM, rfl, rfl, rfl, HF, hT, hB⟩ := hrel
    have HTr := Lib.hid hT
    have HBr := Lib.hid hB
    by_cases hlt : m < 102
    · have hj2 : j < 51 := by have := HM.out; omega
      obtain ⟨x, hx⟩ : ∃ x, tabT[j]? = some x := ⟨_, List.getElem?_eq_getElem (show j < tabT.length from hj2)⟩
      obtain ⟨k1, k2⟩ := tab_two hT hx HM.out
      have k3 : wr.cell? { block := ad.block, off := ad.off + (m + 1) } = some (.string x.2) := (Addr.add_succ' ad m) ▸ k2
      have HS := Lib.hid (foldT_step (B s) hx)
      have hxz : x.1.size ≤ 16 := (tab_facts x (List.mem_of_getElem? hx)).2.1
      obtain ⟨x1, x2⟩ := x
      simp only at hxz
      have hm1 : m + 1 < 102 := by have := HM.out; omega
      have s1 : IntKind.i64.wrap ((m : Int) + 2) = (m : Int) + 2 := IntWalk.i64_in _ (by omega)
      have s2 : IntKind.i64.wrap ((m : Int) + 1) = (m : Int) + 1 := IntWalk.i64_in _ (by omega)
      have HM2 : Hid (m + 2 = (j + 1) * 2) := by show _ = _; have := HM.out; omega
      clear hx hT hB
      by_cases q1 : b1.size < x1.size
      · have d1 : decide (b1.size < x1.size) = true := decide_eq_true q1
        by_cases q2 : x1.size ≤ s.size
        · have d2 : decide (x1.size ≤ s.size) = true := decide_eq_true q2
          have hpe := prefix_eq s x1 q2
          cases q3 : Lib.hasPrefix (B s) (B x1) with
          | true =>
            rw [q3] at hpe
            have HS2 : Hid (foldT (B s) (j + 1) = (x1, x2)) := HS.out.trans (by rw [HF.out]; exact step_yes (b := (b1, b2)) (x := (x1, x2)) q1 q3)
            clear q3 HS
            go_wp2_with fail
            go_quiet (fail)
            go_wp2_with fail
            exact ⟨⟨j + 1, m + 2, (x1, x2), by omega, by omega, HM2, by go_num, rfl, rfl, HS2, HTr.out, below_drewN HBr.out _⟩, by simp [intOf]; omega⟩
          | false =>
            rw [q3] at hpe
            have HS2 : Hid (foldT (B s) (j + 1) = (b1, b2)) := HS.out.trans (by rw [HF.out]; exact step_no (b := (b1, b2)) (x := (x1, x2)) (fun h => by rw [h.2] at q3; cases q3))
            clear q3 HS
            go_wp2_with fail
            go_quiet (fail)
            go_wp2_with fail
            exact ⟨⟨j + 1, m + 2, (b1, b2), by omega, by omega, HM2, by go_num, rfl, rfl, HS2, HTr.out, below_drewN HBr.out _⟩, by simp [intOf]; omega⟩
        · have d2 : decide (x1.size ≤ s.size) = false := decide_eq_false q2
          have hps := prefix_short s x1 q2
          have HS2 : Hid (foldT (B s) (j + 1) = (b1, b2)) := HS.out.trans (by rw [HF.out]; exact step_no (b := (b1, b2)) (x := (x1, x2)) (fun h => by rw [h.2] at hps; cases hps))
          clear hps HS
          go_wp2_with fail
          go_quiet (fail)
          go_wp2_with fail
          exact ⟨⟨j + 1, m + 2, (b1, b2), by omega, by omega, HM2, by go_num, rfl, rfl, HS2, HTr.out, below_drewN HBr.out _⟩, by simp [intOf]; omega⟩
      · have d1 : decide (b1.size < x1.size) = false := decide_eq_false q1
        have HS2 : Hid (foldT (B s) (j + 1) = (b1, b2)) := HS.out.trans (by rw [HF.out]; exact step_no (b := (b1, b2)) (x := (x1, x2)) (fun h => q1 h.1))
        clear HS
        go_wp2_with fail
        go_quiet (fail)
        go_wp2_with fail
        exact ⟨⟨j + 1, m + 2, (b1, b2), by omega, by omega, HM2, by go_num, rfl, rfl, HS2, HTr.out, below_drewN HBr.out _⟩, by simp [intOf]; omega⟩
    · have he : m = 102 := by omega
      subst he
      have hj51 : j = 51 := by have := HM.out; omega
      subst hj51
      have HR : Hid (namedR (B s) = (b1, b2)) := (foldT_end (B s)).symm.trans HF.out
      clear hT hB
      go_wp2_with fail
      go_ret2
      exact ⟨ret_si (by rw [HR.out]) (by rw [HR.out]), HBr.out⟩
end Go.Proofs.YtdjeajbinpgpiaaGreat
