/- Lists of attributes: find, Clone, Add, More, Unique, Alike, of package attrs and of its reference: each with what it answers. -/
import Derived.Test.YtojpedgfllgbcaaDoorAttrs0
namespace Go.Proofs.YtojpedgfllgbcaaDoor
open Go.RowKit

theorem find_one (w : World) (x : At) (bb : Nat) (s : ByteArray) (hc : w.cell? ⟨bb, 0, none⟩ = some (.string s)) :
    Calls Tryd.prog 117 #[val_at x, .pointer (some ⟨bb, 0, none⟩)] w fun e w' => e = .returned (.bool (nameP s x)) ∧ Below w.heap.size w w' := by
  have hb0 : Below w.heap.size w (w.alloc (.cells #[.string x.name, .string x.val] 40)) := (Below.refl _ _).alloc (Nat.le_refl _) _
  have h0 := cell_keep hb0 hc
  unfold val_at
  go_enter Tryd.func117, Tryd.ntmps117
  go_wp2_with fail
  go_ret
  exact ⟨rfl, hb0⟩

set_option maxHeartbeats 1000000 in
theorem indexFunc_find (w : World) (A : Option Addr) (n c : Nat) (l : List At) (bb : Nat) (s : ByteArray) (h : RdA w A n l) (hb : n ≤ 9223372036854775807) (hc : w.cell? ⟨bb, 0, none⟩ = some (.string s)) :
    Calls Tryd.prog 116 #[.slice A n c, .func (.func 117) #[] #[.pointer (some ⟨bb, 0, none⟩)]] w fun e w' => e = .returned (.int .i64 (findA l s)) ∧ Below w.heap.size w w' := by
  have H := Lib.hid h
  have HL := Lib.hid h.1
  have HC := Lib.hid hc
  clear h hc
  go_enter Tryd.func116, Tryd.ntmps116
  go_wp2_with fail
  go_loopw [8] (fun i wr => ∃ j : Nat, j ≤ n ∧ i = .int .i64 j ∧ Below w.heap.size w wr ∧ (l.take j).any (nameP s) = false) (fun i _ => n - (intOf i).toNat)
  case atStart => exact ⟨0, Nat.zero_le _, rfl, Below.refl _ _, rfl⟩
  case round =>
    obtain ⟨j, hj, rfl, hb, ht⟩ := hrel
    have HT := Lib.hid ht
    have HB := Lib.hid hb
    clear ht hb
    by_cases hlt : j < n
    · obtain ⟨x, hx⟩ : ∃ x, l[j]? = some x := ⟨_, List.getElem?_eq_getElem (by have := HL.out; omega)⟩
      obtain ⟨a1, rfl, k1, k2⟩ := rdA_at (H.out.keep HB.out) hx
      have s1 : IntKind.i64.wrap ((j : Int) + 1) = (j : Int) + 1 := IntWalk.i64_in _ (by omega)
      have hX := Lib.hid hx
      clear hx
      have d0 : decide ((j : Int) < (n : Int)) = true := decide_eq_true (by omega)
      have HK := find_one wr x bb s (cell_keep HB.out HC.out)
      cases hq : nameP s x
      · have HQ := Lib.hid hq
        rw [hq] at HK
        have HK2 := Lib.hid HK
        clear hq HK
        go_wp2_with fail
        refine HK2.out.mono ?_
        rintro e w2 ⟨rfl, b2⟩
        have HB2 := Lib.hid (below_both HB.out b2)
        go_wp2_with fail
        exact ⟨⟨j + 1, by omega, by go_num, HB2.out, by rw [any_take HT.out hX.out]; exact HQ.out⟩, by simp [intOf]; omega⟩
      · have HQ := Lib.hid hq
        rw [hq] at HK
        have HK2 := Lib.hid HK
        clear hq HK
        go_wp2_with fail
        refine HK2.out.mono ?_
        rintro e w2 ⟨rfl, b2⟩
        have HB2 := Lib.hid (below_both HB.out b2)
        go_wp2_with fail
        go_ret
        exact ⟨congrArg (fun b => Ending.returned (.int .i64 b)) (findA_hit HT.out hX.out HQ.out).symm, HB2.out⟩
    · have d0 : decide ((j : Int) < (n : Int)) = false := decide_eq_false (by omega)
      go_wp2_with fail
      go_ret
      have ht := HT.out
      rw [List.take_of_length_le (by have := HL.out; omega)] at ht
      exact ⟨congrArg (fun b => Ending.returned (.int .i64 b)) (findA_none ht).symm, HB.out⟩

theorem find_at (w : World) (A : Option Addr) (n c : Nat) (l : List At) (s : ByteArray) (h : RdA w A n l) (hb : n ≤ 9223372036854775807) :
    Calls Tryd.prog 110 #[.slice A n c, .string s] w fun e w' => e = .returned (.int .i64 (findA l s)) ∧ Below w.heap.size w w' := by
  have hb0 : Below w.heap.size w (w.alloc (.cells #[.string s] 9)) := (Below.refl _ _).alloc (Nat.le_refl _) _
  have HI := Lib.hid (indexFunc_find _ A n c l w.heap.size s (h.keep hb0) hb ((Blk.new w 9 #[.string s] (0, 0)).cell 0))
  clear h
  go_enter Tryd.func110, Tryd.ntmps110
  go_wp2_with fail
  refine HI.out.mono ?_
  rintro e w2 ⟨rfl, b2⟩
  go_wp2_with fail
  go_ret
  exact ⟨rfl, below_both hb0 b2⟩

def RowA (w : World) (base : Nat) (v : Value) (l : List At) : Prop := w.ownsRow base 40 2 v l.length (l.flatMap enc_at)
theorem RowA.read {w : World} {base : Nat} {v : Value} {l : List At} (h : RowA w base v l) : ∃ A c, v = .slice A l.length c ∧ RdA w A l.length l := rdA_own h
theorem RowA.keep {w w' : World} {base : Nat} {v : Value} {l : List At} (h : RowA w base v l) (hb : Below w.heap.size w w') : RowA w' base v l := owns_but h (But.of_below hb) (S := fun _ => False) (fun _ _ h => h)
theorem RowA.le {w : World} {base base' : Nat} {v : Value} {l : List At} (h : RowA w base v l) (hb : base' ≤ base) : RowA w base' v l := owns_base h (fun g hg => Nat.le_trans hb (h.lt g hg).1)

set_option maxHeartbeats 1000000 in
set_option maxRecDepth 100000 in
theorem clone_at (w : World) (A : Option Addr) (n c : Nat) (l : List At) (h : RdA w A n l) (hsz : n ≤ 4398046511104) (hc0 : A = none → c = 0) :
    Calls Tryd.prog 109 #[.slice A n c] w fun e w' => ∃ v', e = .returned v' ∧ RowA w' w.heap.size v' l ∧ Below w.heap.size w w' := by
  have q22 : ∀ (w : World) (a : Option Addr) (n c n' c' : Nat), (binOp .eql 22 (.slice a n c) (.slice none n' c')).run Tryd.prog w = .ok (.bool a.isNone) w := fun w a n c n' c' => Lib.run_eql_slice_nil w _ _ a n c n' c' Tryd.underlying22
  obtain ⟨i0, hi0, hz0, hz1, hz2⟩ := info_parts info_at
  cases A with
  | none =>
    have hn : n = 0 := by
      rcases Nat.eq_zero_or_pos n with h0 | h0
      · exact h0
      · obtain ⟨ad, e, _⟩ := h.2.2.2 h0; cases e
    obtain rfl := hc0 rfl
    subst hn
    have hl : l = [] := List.eq_nil_of_length_eq_zero h.1.symm
    subst hl
    clear h
    go_enter Tryd.func109, Tryd.ntmps109
    go_wp2
    go_ret
    exact ⟨_, rfl, World.ownsRow_nil _ _ _ _, Below.refl _ _⟩
  | some ad =>
    have hb0 : Below w.heap.size w (w.alloc (.cells #[] 40)) := (Below.refl _ _).alloc (Nat.le_refl _) _
    have HR := Lib.hid (h.keep hb0).2
    have HM := Lib.hid (made_new w w 40 2 (Below.refl _ _))
    have HL := Lib.hid h.1
    clear h hc0
    go_enter Tryd.func109, Tryd.ntmps109
    go_wp2_with (first
      | (at_builtin
         refine append_made w _ rfl (.tmp 5) (.tmp 6) _ rfl 40 i0 _ 2 32 Tryd.underlying22 hi0 hz0 hz1 hz2 rfl (by omega) _ _ _ rfl HM.out (some ad) n c _ rfl HR.out (by simp only [maxLen]; omega) (by omega) hb0 ?_
         intro v1 w1 hown1 hb1 _
         have HO := Lib.hid hown1
         have HB := Lib.hid hb1
         clear hown1 hb1))
    go_ret
    refine ⟨_, rfl, ?_, HB.out⟩
    have ho := HO.out
    rw [Nat.zero_add, List.nil_append, HL.out] at ho
    exact ho
end Go.Proofs.YtojpedgfllgbcaaDoor
