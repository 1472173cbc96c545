/- arbourkeep.Head, arbourkeep.Short: what they answer. -/
import Derived.Test.YtojpedgfllgbcaaDoorAttrs4
import Derived.Deep.RegionHeld3
import Derived.Deep.DeepCutAuto
namespace Go.Proofs.YtojpedgfllgbcaaDoor
open Go.RowKit

theorem head_short (s : ByteArray) (n : Int) (w : World) (hn : 0 ≤ n) (_hs : s.size ≤ 9223372036854775807) :
    Calls Tryd.prog 18 #[.string s, .int .i64 n] w fun e w' => e = .returned (.string (headB s n.toNat)) ∧ w = w' := by
  obtain ⟨n, rfl⟩ : ∃ k : Nat, n = (k : Int) := ⟨n.toNat, by omega⟩
  by_cases h : n < s.size
  · have e : Hid (headB s n = s.extract 0 n) := by show _ = _; unfold headB; rw [if_pos h]
    have h' : (n : Int) < (s.size : Int) := by omega
    go_enter Tryd.func18, Tryd.ntmps18
    go_wp2_with fail
    go_ret
    exact ⟨congrArg (fun b => Ending.returned (.string b)) (by rw [Int.toNat_natCast, e.out]), rfl⟩
  · have e : Hid (headB s n = s) := by show _ = _; unfold headB; rw [if_neg h]
    have h' : ¬ (n : Int) < (s.size : Int) := by omega
    go_enter Tryd.func18, Tryd.ntmps18
    go_wp2_with fail
    go_ret
    exact ⟨congrArg (fun b => Ending.returned (.string b)) e.out.symm, rfl⟩

def cutA (x : At) : At := ⟨headB x.name 20, headB x.val 30⟩
def shortA (l : List At) : List At := (l.take 6).map cutA
theorem shortA_len (l : List At) : (shortA l).length ≤ 6 := by unfold shortA; rw [List.length_map, List.length_take]; omega

set_option maxHeartbeats 2000000 in
set_option maxRecDepth 100000 in
theorem short_keep (w : World) (A : Option Addr) (n c : Nat) (l : List At) (h : RdA w A n l) (hok : ∀ x ∈ l, x.ok) (hb : n ≤ 9223372036854775807) :
    Calls Tryd.prog 51 #[.slice A n c] w fun e w' => ∃ v', e = .returned v' ∧ RowA w' w.heap.size v' (shortA l) ∧ Below w.heap.size w w' := by
  obtain ⟨i0, hi0, hz0, hz1, hz2⟩ := info_parts info_at
  have H := Lib.hid h
  have HL := Lib.hid h.1
  have HOK := Lib.hid hok
  clear h hok
  go_enter Tryd.func51, Tryd.ntmps51
  go_wp2_with fail
  go_loopw [4, 3] (fun i v wr => ∃ j : Nat, j ≤ n ∧ j ≤ 6 ∧ i = .int .i64 j ∧ RowA wr w.heap.size v ((l.take j).map cutA) ∧ Below w.heap.size w wr) (fun i _ _ => n - (intOf i).toNat)
  case atStart => exact ⟨0, Nat.zero_le _, by omega, rfl, by simpa [RowA] using World.ownsRow_nil _ _ _ _, Below.refl _ _⟩
  case round =>
    obtain ⟨j, hj, hj6, rfl, hr, hbr⟩ := hrel
    have HR := Lib.hid hr
    have HB := Lib.hid hbr
    clear hr hbr
    by_cases hlt : j < n ∧ j < 6
    · obtain ⟨hlt, h6⟩ := hlt
      have d0 : decide ((j : Int) < (n : Int)) = true := decide_eq_true (by omega)
      have d1 : decide ((j : Int) < 6) = true := decide_eq_true (by omega)
      obtain ⟨x, hx⟩ : ∃ x, l[j]? = some x := ⟨_, List.getElem?_eq_getElem (by have := HL.out; omega)⟩
      obtain ⟨a1, rfl, k1, k2⟩ := rdA_at (H.out.keep HB.out) hx
      have hxk := HOK.out x (List.mem_of_getElem? hx)
      have b1 : x.name.size ≤ 9223372036854775807 := hxk.1
      have b2 : x.val.size ≤ 9223372036854775807 := hxk.2
      have s1 : IntKind.i64.wrap ((j : Int) + 1) = (j : Int) + 1 := IntWalk.i64_in _ (by omega)
      have hlen : ((l.take j).map cutA).length ≤ 6 := by rw [List.length_map, List.length_take]; omega
      have HX := Lib.hid (show (l.take (j + 1)).map cutA = (l.take j).map cutA ++ [cutA x] by rw [List.take_add_one, hx]; simp)
      have hX0 := Lib.hid hx
      clear hx hxk
      generalize (l.take j).map cutA = cur at *
      have keepS : ∀ W, Below w.heap.size w W → (W.cell? (a1.add (j * 2)) = some (.string x.name) ∧ W.cell? { a1.add (j * 2) with off := (a1.add (j * 2)).off + 1, spot := none } = some (.string x.val) ∧ Below w.heap.size w W) := fun W hW => by
        obtain ⟨ad, e, m1, m2⟩ := rdA_at (H.out.keep hW) hX0.out
        cases e
        exact ⟨m1, m2, hW⟩
      have KS := Lib.hid keepS
      have hB0 := HB.out.drew
      have hBA : ∀ o, Below w.heap.size w (wr.drew.alloc o) := fun o => hB0.alloc HB.out.size o
      have HRB := Lib.hid (HR.out.keep (made_drew wr))
      clear keepS
      go_wp2_with fail
      go_region_held3 (fun W => W.cell? (a1.add (j * 2)) = some (.string x.name) ∧ W.cell? { a1.add (j * 2) with off := (a1.add (j * 2)).off + 1, spot := none } = some (.string x.val) ∧ Below w.heap.size w W)
        (first | exact KS.out _ hB0 | exact KS.out _ (hBA _) | exact KS.out _ hB2)
        (first
          | (go_at_call 18; refine (head_short _ _ _ (by omega) (by omega)).mono ?_; rintro e w' ⟨rfl, rfl⟩)
          | (refine step_append_any _ (by rfl) (.tmp 15) (.tmp 29) _ (by rfl) w.heap.size 40 i0 _ 2 32 Tryd.underlying22 hi0 hz0 hz1 hz2 rfl (by omega) _ _ _ (by rfl) ((HRB.out).keep ((Below.refl _ _).alloc (Nat.le_refl _) _)) _ 1 1 (enc_at (cutA x)) (by rfl) (rd_one_at (Blk.new _ _ _ _)) (by simp only [maxLen]; omega) (by omega) (by have := HB.out.size; simp; omega) ?_
             intro v2 w2 hown2 hg2 hat2
             have hB2 : Below w.heap.size w w2 := made_grown (hBA _) hg2 (fun k hk => (HR.out.lt k hk).1)))
      go_wp2_with fail
      refine ⟨⟨j + 1, by omega, by omega, by go_num, ?_, hB2⟩, by simp [intOf]; omega⟩
      rw [HX.out]
      unfold RowA
      rw [List.length_append, List.flatMap_append]
      simpa using hown2
    · have he : (l.take j).map cutA = shortA l := by
        unfold shortA
        by_cases h6 : j = 6
        · rw [h6]
        · rw [List.take_of_length_le (by have := HL.out; omega), List.take_of_length_le (by have := HL.out; omega)]
      have HE := Lib.hid he
      clear he
      have hd : (decide ((j : Int) < (n : Int)) = false) ∨ (decide ((j : Int) < (n : Int)) = true ∧ decide ((j : Int) < 6) = false) := by
        by_cases h1 : j < n
        · exact .inr ⟨decide_eq_true (by omega), decide_eq_false (by omega)⟩
        · exact .inl (decide_eq_false (by omega))
      clear hlt
      rcases hd with d0 | ⟨d0, d1⟩
      have d5 : ¬ (j < n) := by have := of_decide_eq_false d0; omega
      rotate_left
      have d2 : ¬ ((j : Int) < 6) := of_decide_eq_false d1
      have d3 : j < n := by have := of_decide_eq_true d0; omega
      all_goals
        go_wp2_with fail
        go_ret
        exact ⟨_, rfl, by rw [← HE.out]; exact HR.out, HB.out⟩
end Go.Proofs.YtojpedgfllgbcaaDoor
