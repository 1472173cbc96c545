/- OpenTexts: the plain law; Place of texts; a list of texts' elements, and a row of elements beside it. -/
import Derived.Test.YtoehpladbdefkaaOpenRef
import Derived.Test.YtoehpladbdefkaaOpenItex
import Derived.Test.YtoehpladbdefkaaOpenL
import Derived.Test.YtoehpladbdefkaaStr
import Derived.Laws.Runes
namespace Go.Proofs.Ytoehpladbdefkaa
open Go.RowKit

/-- The sign of the i-th; its handle. -/
def encX (i : Nat) : ByteArray := Utf8.encode (97 + (i : Int))
def hX (h : ByteArray) (i : Nat) : ByteArray := h ++ encX i
theorem app_list (a b : ByteArray) : (a ++ b).toList = a.toList ++ b.toList := by
  simp only [Lib.toList_data, ByteArray.data_append, Array.toList_append]
theorem enc_valid (i : Nat) (h : i < 128) : Utf8.valid (i : Int) = true := by
  unfold Utf8.valid
  rw [decide_eq_true (show (0 : Int) ≤ (i : Int) by omega), decide_eq_true (show (i : Int) < 0xD800 by omega)]
  exact Bool.true_or _
theorem enc_low (n : Nat) (h : n < 128) : Utf8.encode (n : Int) = ⟨#[UInt8.ofNat n]⟩ := by
  unfold Utf8.encode
  rw [if_pos (enc_valid n h), Int.toNat_natCast]
  simp only [h, if_true]
theorem enc_one (i : Nat) (h : i < 20) : (encX i).toList = [UInt8.ofNat (97 + i)] := by
  unfold encX
  rw [Lib.toList_data, show (97 + (i : Int)) = ((97 + i : Nat) : Int) by omega, enc_low _ (by omega)]
theorem hX_eq {h : ByteArray} {i j : Nat} (hi : i < 20) (hj : j < 20) : ((hX h i).toList == (hX h j).toList) = decide (i = j) := by
  unfold hX
  rw [app_list, app_list, enc_one i hi, enc_one j hj, Bool.eq_iff_iff, beq_iff_eq, decide_eq_true_eq, List.append_cancel_left_eq]
  constructor
  · intro e
    have e1 : UInt8.ofNat (97 + i) = UInt8.ofNat (97 + j) := by simpa using e
    have := congrArg UInt8.toNat e1
    simp only [UInt8.toNat_ofNat'] at this
    omega
  · rintro rfl; rfl
theorem encX_size (i : Nat) (h : i < 20) : (encX i).size = 1 := by
  rw [size_B, ← toList_B, enc_one i h]
  rfl
theorem conv_i32 (i : Nat) (h : i < 20) (w : World) : (convert 3 21 (.int .i64 (97 + (i : Int)))).run Try.prog w = .ok (.int .i32 (97 + (i : Int))) w := by
  have e : IntKind.i32.wrap (97 + (i : Int)) = 97 + (i : Int) := by
    have := IntWalk.i32_in (97 + (i : Int)) (by omega)
    exact this
  have hs := Try.underlying3
  have hd := Try.underlying21
  simp [convert, run_underlying hs, run_underlying hd, Conv.intToInt, e]
theorem conv_rune (i : Nat) (w : World) : (convert 21 9 (.int .i32 (97 + (i : Int)))).run Try.prog w = .ok (.string (encX i)) w :=
  run_convert_int_string w _ _ _ _ (by rw [Try.underlying21]; rfl) Try.underlying9
theorem cat_any (a b : ByteArray) (h : a.size + b.size ≤ 9223372036854775807) (w : World) : (binOp .add 9 (.string a) (.string b)).run Try.prog w = .ok (.string (a ++ b)) w := by
  simp only [go_sem]
  rw [if_neg (by omega)]
def placeXR (h : ByteArray) : List ByteArray → Int
  | [] => -1
  | x :: r => if (x.toList == h.toList) = true then (r.length : Int) else placeXR h r
def placeX (l : List ByteArray) (h : ByteArray) : Int := placeXR h l.reverse
theorem placeX_at (h : ByteArray) : ∀ (n i : Nat), i < n → n ≤ 20 → placeX ((List.range n).map (hX h)) (hX h i) = (i : Int)
  | 0, i, h1, _ => absurd h1 (by omega)
  | n + 1, i, h1, h2 => by
    unfold placeX
    rw [List.range_succ, List.map_append, List.reverse_append, List.map_singleton, List.reverse_singleton, List.singleton_append, placeXR, hX_eq (by omega) (by omega)]
    by_cases e : n = i
    · subst e; simp
    · rw [if_neg (by simpa using e)]
      exact placeX_at h n i (by omega) (by omega)
theorem placeX_none (h g : ByteArray) (n : Nat) (hn : ∀ i, i < n → ((hX h i).toList == g.toList) = false) : placeX ((List.range n).map (hX h)) g = -1 := by
  induction n with
  | zero => rfl
  | succ n ih =>
    unfold placeX
    rw [List.range_succ, List.map_append, List.reverse_append, List.map_singleton, List.reverse_singleton, List.singleton_append, placeXR, if_neg (by rw [hn n (by omega)]; decide)]
    exact ih (fun i hi => hn i (by omega))
def noneB : ByteArray := ⟨#[110, 111, 110, 101]⟩
theorem hX_none (h : ByteArray) (i : Nat) (hi : i < 20) : ((hX h i).toList == (h ++ noneB).toList) = false := by
  unfold hX
  rw [app_list, app_list, enc_one i hi, beq_eq_false_iff_ne]
  intro e
  have := congrArg List.length e
  simp [noneB, Lib.toList_data] at this
/-- The elements with texts for handles. -/
def toX (h : ByteArray) (m : List It) : List Ix := m.zipIdx.map (fun p => ⟨hX h p.2, p.1.ns, p.1.name, none, 0, 0⟩)
theorem toX_len (h : ByteArray) (m : List It) : (toX h m).length = m.length := by simp [toX]
theorem toX_snoc (h : ByteArray) (m : List It) (x : It) : toX h (m ++ [x]) = toX h m ++ [⟨hX h m.length, x.ns, x.name, none, 0, 0⟩] := by
  unfold toX
  rw [List.zipIdx_append, List.map_append]
  simp
theorem toX_key (h : ByteArray) (m : List It) : (toX h m).map key_itex = m.map key_item := by
  unfold toX
  rw [List.map_map]
  have : (key_itex ∘ fun p : It × Nat => (⟨hX h p.2, p.1.ns, p.1.name, none, 0, 0⟩ : Ix)) = key_item ∘ Prod.fst := rfl
  rw [this, ← List.map_map, List.zipIdx_map_fst]
theorem toX_h (h : ByteArray) (m : List It) : (toX h m).map Ix.h = (List.range m.length).map (hX h) := by
  unfold toX
  rw [List.map_map]
  have : (Ix.h ∘ fun p : It × Nat => (⟨hX h p.2, p.1.ns, p.1.name, none, 0, 0⟩ : Ix)) = hX h ∘ Prod.snd := rfl
  rw [this, ← List.map_map, List.zipIdx_map_snd, List.range_eq_range']

set_option maxHeartbeats 2000000 in
set_option maxRecDepth 100000 in
theorem place_itex (B : Nat) (w : World) (q : Nat) (l : List Ix) (hd : ByteArray) (h : LB_itex B w q l) :
    Calls Try.prog 31 #[.pointer (some ⟨q, 0, none⟩), .string hd] w fun e w' => e = .returned (.int .i64 (placeX (l.map Ix.h) hd)) ∧ Below w.heap.size w w' := by
  have hlen := h.len
  have HL := Lib.hid h
  clear h
  have s1 : IntKind.i64.wrap ((l.length : Int) - 1) = (l.length : Int) - 1 := IntWalk.i64_in _ (by omega)
  go_enter Try.func31, Try.ntmps31
  go_wp2_with fail
  refine (lenL_itex B w q l HL.out).mono ?_
  rintro e w1 ⟨rfl, rfl⟩
  go_wp2_with fail
  go_loopw [5] (fun i wr => ∃ j : Nat, j ≤ l.length ∧ i = .int .i64 ((j : Int) - 1) ∧ Below w.heap.size w wr ∧ placeXR hd ((l.map Ix.h).reverse) = placeXR hd (((l.take j).map Ix.h).reverse)) (fun i _ => (intOf i + 1).toNat)
  case atStart => exact ⟨l.length, Nat.le_refl _, rfl, Below.refl _ _, by rw [List.take_of_length_le (Nat.le_refl _)]⟩
  case round =>
    obtain ⟨j, hj, rfl, hbr, ht⟩ := hrel
    have HT := Lib.hid ht
    have HB := Lib.hid hbr
    clear ht hbr
    cases j with
    | zero =>
      go_wp2_with fail
      go_ret
      have e2 : placeX (l.map Ix.h) hd = -1 := HT.out
      exact ⟨congrArg (fun b => Ending.returned (.int .i64 b)) e2.symm, HB.out⟩
    | succ m =>
      have e1 : (((m + 1 : Nat) : Int) - 1) = (m : Int) := by omega
      rw [e1]
      have hm : m < l.length := by omega
      obtain ⟨y, hy⟩ : ∃ y, l[m]? = some y := ⟨_, List.getElem?_eq_getElem hm⟩
      have hstep : placeXR hd (((l.take (m + 1)).map Ix.h).reverse) = if (y.h.toList == hd.toList) = true then (m : Int) else placeXR hd (((l.take m).map Ix.h).reverse) := by
        rw [List.take_add_one, hy]
        simp only [Option.toList_some, List.map_append, List.map_cons, List.map_nil, List.reverse_append, List.reverse_cons, List.reverse_nil, List.nil_append, List.singleton_append, placeXR, List.length_reverse, List.length_map, List.length_take]
        rw [Nat.min_eq_left (by omega)]
      have s2 : IntKind.i64.wrap ((m : Int) - 1) = (m : Int) - 1 := IntWalk.i64_in _ (by omega)
      have HST := Lib.hid (HT.out.trans hstep)
      have hA := atL_itex B wr q l (m : Int) (HL.out.keep HB.out)
      rw [getL_nat, hy] at hA
      simp only [Option.elim, Option.isSome_some] at hA
      have HA := Lib.hid hA
      clear hstep hA hy
      go_wp2_with fail
      refine HA.out.mono ?_
      rintro e w2 ⟨rfl, b2⟩
      have hb3 : Below w2.heap.size w2 (w2.alloc (.cells (enc_itex y).toArray 56)) := (Below.refl _ _).alloc (Nat.le_refl _) _
      have HB3 := Lib.hid (below_both (below_both HB.out b2) hb3)
      obtain ⟨hvc, _⟩ := var_itex (x := y) (Blk.new w2 56 (enc_itex y).toArray (0, 0))
      have c0 := hvc 0 _ rfl
      clear hvc b2 hb3
      unfold enc_itex at c0
      simp only [val_itex]
      cases hq : (y.h.toList == hd.toList)
      · have hst := HST.out
        rw [if_neg (by rw [hq]; decide)] at hst
        have HS := Lib.hid hst
        clear hst
        go_wp2_with fail
        exact ⟨⟨m, by omega, rfl, HB3.out, HS.out⟩, by simp [intOf]⟩
      · have hst := HST.out
        rw [if_pos hq] at hst
        have HS := Lib.hid hst
        clear hst
        go_wp2_with fail
        go_ret
        have e2 : placeX (l.map Ix.h) hd = (m : Int) := HS.out
        exact ⟨congrArg (fun b => Ending.returned (.int .i64 b)) e2.symm, HB3.out⟩

/-! ### a row of elements beside the list -/
def LX (B : Nat) (w : World) (q : Nat) (l : List Ix) (mv : Value) (m : List It) : Prop :=
  ∃ p v, Blk w q 95 #[.pointer (some ⟨p, 0, none⟩)] (0, 0) ∧ Pile_itex w p v l ∧ ¬ foot p v q ∧ (∀ k, foot p v k → B ≤ k) ∧ B ≤ q ∧ B ≤ w.heap.size ∧
    w.ownsRow B 50 4 mv m.length (m.flatMap enc_item) ∧ (∀ g, mv.ownBlock = some g → ¬ foot p v g ∧ g ≠ q)
section
variable {B : Nat} {w w1 : World} {q : Nat} {l : List Ix} {m m' : List It} {mv mv' : Value}
theorem LX.list (h : LX B w q l mv m) : LB_itex B w q l := by
  obtain ⟨p, v, h1, h2, h3, h4, h5, h6, _⟩ := h
  exact ⟨p, v, h1, h2, h3, h4, h5, h6⟩
theorem LX.le (h : LX B w q l mv m) : B ≤ w.heap.size := h.list.le
theorem LX.row (h : LX B w q l mv m) : w.ownsRow B 50 4 mv m.length (m.flatMap enc_item) := by
  obtain ⟨p, v, _, _, _, _, _, _, h7, _⟩ := h
  exact h7
theorem LX.keep (h : LX B w q l mv m) (hb : Below w.heap.size w w1) : LX B w1 q l mv m := by
  obtain ⟨p, v, h1, h2, h3, h4, h5, h6, h7, h8⟩ := h
  exact ⟨p, v, h1.keep hb, h2.keep hb, h3, h4, h5, Nat.le_trans h6 hb.size, owns_but h7 (But.of_below hb) (S := fun _ => False) (fun _ _ h => h), h8⟩
theorem LX.onList (h : LX B w q l mv m) :
    ∃ F, LF_itex F w q l ∧ (∀ k, F k → B ≤ k ∧ k < w.heap.size) ∧ (∀ w1 l1 F1, (∀ k, F1 k → F k ∨ w.heap.size ≤ k) → LF_itex F1 w1 q l1 → But F w w1 → LX B w1 q l1 mv m ∧ Below B w w1) := by
  obtain ⟨p, v, h1, h2, h3, h4, h5, h6, h7, h8⟩ := h
  refine ⟨foot p v, ⟨p, v, h1, h2, h3, fun _ h => h⟩, fun k hk => ⟨h4 k hk, h2.lt hk⟩, fun w1 l1 F1 hF hlf hb => ⟨?_, hb.below h4 h6⟩⟩
  obtain ⟨p', v', g1, g2, g3, g4⟩ := hlf
  refine ⟨p', v', g1, g2, g3, fun k hk => ?_, h5, Nat.le_trans h6 hb.size, owns_but h7 hb (fun g hg => (h8 g hg).1), fun g hg => ⟨fun hk => ?_, (h8 g hg).2⟩⟩
  · rcases hF k (g4 k hk) with h | h
    · exact h4 k h
    · omega
  · rcases hF g (g4 g hk) with h | h
    · exact (h8 g hg).1 h
    · have := owns_lt h7 hg; omega
theorem LX.onRow {n : Nat} {xs : List Value} (h : LX B w q l mv m) (hr : w1.ownsRow B 50 4 mv' n xs) (hn : n = m'.length) (hx : xs = m'.flatMap enc_item) (hg : w.grownBy w1 mv.ownBlock)
    (ha : mv'.ownBlock = mv.ownBlock ∨ mv'.ownBlock = some w.heap.size) : LX B w1 q l mv' m' ∧ Below B w w1 := by
  subst hn hx
  obtain ⟨p, v, h1, h2, h3, h4, h5, h6, h7, h8⟩ := h
  have hb : But (fun k => mv.ownBlock = some k) w w1 := But.of_grown hg (fun k hk => hk)
  refine ⟨⟨p, v, h1.but hb (fun e => (h8 q e).2 rfl), h2.but hb (fun k hk e => (h8 k e).1 hk), h3, h4, h5, Nat.le_trans h6 hb.size, hr, fun g hg => ?_⟩, hb.below (fun k hk => (h7.lt k hk).1) h6⟩
  rcases ha with e | e
  · exact h8 g (e ▸ hg)
  · rw [e] at hg
    cases hg
    exact ⟨fun hk => by have := h2.lt hk; omega, by have := h1.lt; omega⟩
theorem LX.new (h : LB_itex B w q l) : LX B w q l (.slice none 0 0) [] := by
  obtain ⟨p, v, h1, h2, h3, h4, h5, h6⟩ := h
  exact ⟨p, v, h1, h2, h3, h4, h5, h6, World.ownsRow_nil _ _ _ _, fun g hg => by cases hg⟩
end
end Go.Proofs.Ytoehpladbdefkaa
