/- The functions of package scan, and what they call: Starts, Fold, Find. -/
import Derived.Test.YtjghkiphfpeocaaBase
import Derived.Test.YtjghkiphfpeocaaShelf
import Derived.WalkKit
import Derived.KernelRfl
import Derived.WalkLawsBesides
import Derived.WalkSpells
import Derived.Lib.Hide
import Derived.Lib.ConvBytes
import Derived.Shelf.Vars
import Derived.Laws.BytesArg
namespace Go.Proofs.Ytjghkiphfpeocaa
open Go.RowKit

theorem within_any (s : ByteArray) (at_ : Int) (w : World) (_hs : s.size ≤ 9223372036854775807) :
    Calls Try.prog 58 #[.string s, .int .i64 at_] w fun e w' => e = .returned (.int .i64 (clampN at_ s.size : Nat)) ∧ w = w' := by
  go_enter Try.func58, Try.ntmps58
  go_wp2
  all_goals
    go_ret
    refine ⟨?_, rfl⟩
    unfold clampN
    simp
    omega

theorem ret_bool {a b : Bool} (h : a = b) : Ending.returned (.bool a) = .returned (.bool b) := by rw [h]
theorem ret_int {k : IntKind} {a b : Int} (h : a = b) : Ending.returned (.int k a) = .returned (.int k b) := by rw [h]
theorem ret_str {a b : ByteArray} (h : a = b) : Ending.returned (.string a) = .returned (.string b) := by rw [h]

theorem hasPrefix_any (s p : ByteArray) (w : World) :
    Calls Try.prog 57 #[.string s, .string p] w fun e w' => e = .returned (.bool (Lib.hasPrefix (B s) (B p))) ∧ w = w' :=
  (Try.strings_HasPrefix s p w).mono fun _ _ ⟨h, h'⟩ => ⟨h, h'.symm⟩
/-- What strings.Index asks of the world: the library's own variable holds a number. -/
def Lax (w : World) : Prop := ∃ m : Int, w.cell? ⟨0, 0, none⟩ = some (.int .i64 m)
theorem Lax.below {w w' : World} (h : Lax w) (hb : Below w.heap.size w w') : Lax w' := by
  obtain ⟨m, hm⟩ := h
  exact ⟨m, (hb.cell (World.block_lt_of_cell? w _ hm)).trans hm⟩
theorem Lax.of_shaped {w : World} (h : w.ShapedOpen Try.prog) : Lax w :=
  cell_of_shapedOpen_int (zero := #[.int .i64 0]) h (by decide) (by kernel_rfl) rfl (by kernel_rfl) (by kernel_rfl) Try.underlying3
theorem index_any (s sub : ByteArray) (w : World) (hs : s.size < 4294967281) (hw : Lax w) :
    Calls Try.prog 74 #[.string s, .string sub] w fun e w' => e = .returned (.int .i64 (Lib.index (B s) (B sub))) ∧ w = w' := by
  obtain ⟨m, hm⟩ := hw
  exact (Try.strings_Index s sub m w hs hm).mono fun _ _ ⟨h, h'⟩ => ⟨h, h'.symm⟩

theorem starts_any (s sub : ByteArray) (at_ : Int) (w : World) (hs : s.size ≤ 9223372036854775807) :
    Calls Try.prog 32 #[.string s, .int .i64 at_, .string sub] w fun e w' => e = .returned (.bool (startsL (B s) (B sub) (clampN at_ s.size))) ∧ w = w' := by
  have hk := clampN_le at_ s.size
  have Hw := fun w => within_any s at_ w hs
  generalize clampN at_ s.size = k at *
  go_enter Try.func32, Try.ntmps32
  go_wp2_with (first
    | (go_at_call 58; refine (Hw _).mono ?_; rintro e w' ⟨rfl, rfl⟩)
    | (go_at_call 57; refine (hasPrefix_any _ _ _).mono ?_; rintro e w' ⟨rfl, rfl⟩))
  go_ret
  refine ⟨ret_bool ?_, rfl⟩
  rw [B_drop]
  rfl

theorem wrap_byte (c : UInt8) : wrap32 (c.toNat : Int) = c.toNat := by
  have := c.toNat_lt
  unfold wrap32
  omega
theorem byte_back (c : UInt8) : ((c.toNat : Nat) : Int).toNat.toUInt8 = c := Lib.byte_back' c

set_option maxHeartbeats 400000 in
theorem find_any (s : ByteArray) (at_ : Int) (sub : ByteArray) (w : World) (hs : s.size < 4294967281) (hw : Lax w) :
    Calls Try.prog 59 #[.string s, .int .i64 at_, .string sub] w fun e w' => e = .returned (.int .i64 (findL (B s) (B sub) (clampN at_ s.size) : Nat)) ∧ w = w' := by
  have hk := clampN_le at_ s.size
  have Hw := fun w => within_any s at_ w (by omega)
  generalize clampN at_ s.size = k at *
  have Hx : ∀ r : Int, Lib.index (List.drop k (B s)) (B sub) = r → -1 ≤ r ∧ k + r ≤ s.size ∧ ((findL (B s) (B sub) k : Nat) : Int) = if r < 0 then (s.size : Int) else k + r := by
    intro r hr
    have h1 := Lib.index_ge (List.drop k (B s)) (B sub)
    have h2 := Lib.index_le (List.drop k (B s)) (B sub)
    rw [List.length_drop, ← size_B] at h2
    unfold findL
    rw [hr] at h1 h2 ⊢
    refine ⟨h1, by omega, ?_⟩
    split
    · rw [size_B]
    · omega
  have HX := Lib.hid Hx
  clear Hx
  go_enter Try.func59, Try.ntmps59
  go_wp2_with (first
    | (go_at_call 58; refine (Hw _).mono ?_; rintro e w' ⟨rfl, rfl⟩)
    | (go_at_call 74; refine (index_any _ _ _ ?_ hw).mono ?_; rotate_left; rintro e w' ⟨rfl, rfl⟩; rw [B_drop]; obtain ⟨r, hr⟩ : ∃ r, Lib.index (List.drop k (B s)) (B sub) = r := ⟨_, rfl⟩; have H3 := HX.out r hr; rw [hr]; have ⟨h31, h32, h33⟩ := H3; have HH := Lib.hid h33; clear h33 H3 hr))
  · go_ret
    exact ⟨ret_int (by rw [HH.out, if_pos (by assumption)]), rfl⟩
  · go_ret
    exact ⟨ret_int (by rw [HH.out, if_neg (by omega)]), rfl⟩
  · exact Nat.lt_of_le_of_lt (size_extract_le _ _ _) hs

set_option maxHeartbeats 400000 in
theorem lower_any (s : ByteArray) (w : World) (hs : s.size ≤ 140737488355328) :
    Calls Try.prog 40 #[.string s] w fun e w' => e = .returned (.string (S (lowL (B s)))) ∧ Below w.heap.size w w' := by
  have kb := fun W => Lib.run_convert_string_bytes (P := Try.prog) W 9 61 5 s Try.underlying9 Try.underlying61 Try.underlying5
  go_enter Try.func40, Try.ntmps40
  go_wp2_with fail
  have hb0 := bytes_below w 5 s
  obtain ⟨C0, hC0, hS0, hG0⟩ := bytes_blk w 5 s
  generalize Lib.bytesWorld w 5 s = w0 at *
  generalize grownCap w s.size 0 5 = cap at *
  go_loopw [4, 5, 10] (fun _ _ i wr => ∃ (j : Nat) (C : Array Value), j ≤ s.size ∧ i = .int .i64 j ∧ Below w.heap.size w wr ∧ Blk wr w.heap.size 5 C (C.size, C.size + 1) ∧ s.size ≤ C.size ∧
      (∀ (i : Nat) (h : i < s.size), C[i]? = some (.int .u8 ((if i < j then lowB s[i] else s[i]).toNat : Int)))) (fun _ _ i _ => s.size - (intOf i).toNat)
  case atStart => exact ⟨0, C0, Nat.zero_le _, rfl, hb0, hC0, hS0, fun i h => by rw [if_neg (by omega)]; exact hG0 i h⟩
  case round =>
    obtain ⟨j, C, hj, rfl, hb, hC, hS, hG⟩ := hrel
    have HB := Lib.hid hb
    have HC := Lib.hid hC
    have HG := Lib.hid hG
    clear hb hC hG
    by_cases hlt : j < s.size
    · have hc1 := (HC.out.cell j).trans (HG.out j hlt)
      rw [if_neg (by omega)] at hc1
      have hf1 := HC.out.frozen j (.inl (by simp; omega))
      have hlo := lowB_toNat s[j]
      have hx := s[j].toNat_lt
      generalize hxx : s[j].toNat = x at *
      have HX := Lib.hid hxx
      have HL := Lib.hid hlo
      clear hxx hlo
      go_wp2_with fail
      · have h1 : 65 ≤ (x : Int) := by assumption
        have h2 : (x : Int) ≤ 90 := by assumption
        have e : ((x : Int) + 97 - 65) = ((lowB s[j]).toNat : Int) := by rw [HL.out, if_pos ⟨by omega, by omega⟩]; omega
        rw [e]
        refine ⟨⟨j + 1, C.setIfInBounds j (.int .u8 ((lowB s[j]).toNat : Int)), by omega, by go_num, HB.out.setCell (Nat.le_refl _) _, by simpa using HC.out.set j _, by simpa using hS, fun i h => ?_⟩, by simp [intOf]; omega⟩
        rw [Array.getElem?_setIfInBounds]
        by_cases hij : j = i
        · subst hij
          rw [if_pos rfl, if_pos (by omega), if_pos (by omega)]
        · rw [if_neg hij, HG.out i h]
          by_cases hlt' : i < j
          · rw [if_pos hlt', if_pos (by omega)]
          · rw [if_neg hlt', if_neg (by omega)]
      all_goals
        have e : (lowB s[j]).toNat = s[j].toNat := by
          rw [HL.out, HX.out, if_neg]
          omega
        refine ⟨⟨j + 1, C, by omega, by go_num, HB.out, HC.out, hS, fun i h => ?_⟩, by simp [intOf]; omega⟩
        rw [HG.out i h]
        by_cases hij : j = i
        · subst hij
          rw [if_neg (by omega), if_pos (by omega), e]
        · by_cases hlt' : i < j
          · rw [if_pos hlt', if_pos (by omega)]
          · rw [if_neg hlt', if_neg (by omega)]
    · have hk := back_of_bytes (P := Try.prog) wr 61 9 5 w.heap.size cap s.size (lowL (B s)) (by rw [lowL_length, ← size_B]) Try.underlying61 Try.underlying5 Try.underlying9
        (fun i hi => by
          have hi' : i < s.size := by rw [lowL_length, ← size_B] at hi; exact hi
          rw [HC.out.cell i, HG.out i hi', if_pos (by omega)]
          simp only [lowL, List.getElem_map]
          rw [B_get s i hi' (by rw [← size_B]; exact hi')]
          rfl)
      go_wp2_with fail
      go_ret
      exact ⟨rfl, HB.out⟩

theorem same_any (s t : ByteArray) (w : World) (hs : s.size ≤ 140737488355328) (ht : t.size ≤ 140737488355328) :
    Calls Try.prog 63 #[.string s, .string t] w fun e w' => e = .returned (.bool (lowL (B s) == lowL (B t))) ∧ Below w.heap.size w w' := by
  go_enter Try.func63, Try.ntmps63
  go_wp2_with fail
  refine (lower_any _ _ hs).mono ?_
  rintro e w1 ⟨rfl, hb1⟩
  go_wp2_with fail
  refine (lower_any _ _ ht).mono ?_
  rintro e w2 ⟨rfl, hb2⟩
  go_wp2_with fail
  go_ret
  refine ⟨ret_bool ?_, below_both hb1 hb2⟩
  rw [toList_B, toList_B]
  rfl

set_option maxHeartbeats 400000 in
theorem fold_any (s sub : ByteArray) (at_ : Int) (w : World) (hs : s.size ≤ 140737488355328) (ht : sub.size ≤ 140737488355328) :
    Calls Try.prog 34 #[.string s, .int .i64 at_, .string sub] w fun e w' => e = .returned (.bool (foldL (B s) (B sub) (clampN at_ s.size))) ∧ Below w.heap.size w w' := by
  have hk := clampN_le at_ s.size
  have Hw := fun w => within_any s at_ w (by omega)
  generalize clampN at_ s.size = k at *
  have hsz : (s.extract k s.size).size = s.size - k := by rw [size_B, B_drop, List.length_drop, ← size_B]
  have hfin : sub.size ≤ s.size - k → (lowL (B ((s.extract k s.size).extract 0 sub.size)) == lowL (B sub)) = foldL (B s) (B sub) k := by
    intro hle
    rw [B_piece, B_drop, List.drop_zero, Nat.sub_zero]
    unfold foldL Lib.occAt
    have hl : (lowL (B s)).drop k = lowL ((B s).drop k) := by simp [lowL]
    rw [hl, ← Lib.hasPrefix, ← Lib.hasPrefix_of_take, lowL_length, lowL_length, ← size_B, decide_eq_true (by rw [List.length_drop, ← size_B]; exact hle), Bool.true_and]
    simp [lowL]
  have hfin2 : ¬ sub.size ≤ s.size - k → foldL (B s) (B sub) k = false := by
    intro h
    unfold foldL Lib.occAt
    have hl : (lowL (B s)).drop k = lowL ((B s).drop k) := by simp [lowL]
    rw [hl, ← Lib.hasPrefix, ← Lib.hasPrefix_of_take, lowL_length, lowL_length, ← size_B, decide_eq_false (by rw [List.length_drop, ← size_B]; exact h), Bool.false_and]
  have HF := Lib.hid hfin
  have HF2 := Lib.hid hfin2
  clear hfin hfin2 hsz
  go_enter Try.func34, Try.ntmps34
  go_wp2_with (first
    | (go_at_call 58; refine (Hw _).mono ?_; rintro e w' ⟨rfl, rfl⟩)
    | (go_at_call 63; refine (same_any _ _ _ ?_ ?_).mono ?_; rotate_left 2; rintro e w' ⟨rfl, hb⟩))
  · have h : sub.size ≤ s.size - k := by assumption
    go_ret
    exact ⟨ret_bool (HF.out h), hb⟩
  · exact Nat.le_trans (size_extract_le _ _ _) (Nat.le_trans (size_extract_le _ _ _) hs)
  · exact ht
  · have h : ¬ sub.size ≤ s.size - k := by assumption
    go_ret
    exact ⟨ret_bool (HF2.out h).symm, Below.refl _ _⟩
end Go.Proofs.Ytjghkiphfpeocaa
