/- utf.Encode and the reference's: runes, written. -/
import Derived.Test.YtpdbbpmkdkjppaaDoorUtfD
import Derived.Lib.Builder
namespace Go.Proofs.YtpdbbpmkdkjppaaDoor
open Go.RowKit

theorem enc_bad {r : Int} (h : r < 0 ∨ (55296 ≤ r ∧ r ≤ 57343) ∨ 1114111 < r) : Utf8.encode r = Utf8.encode (65533 : Nat) := by
  have hv : Utf8.valid r = false := by
    unfold Utf8.valid
    rw [Bool.or_eq_false_iff, Bool.and_eq_false_iff, Bool.and_eq_false_iff]
    simp only [decide_eq_false_iff_not]
    omega
  unfold Utf8.encode
  rw [hv, good_valid good_bad]
  rfl
theorem encRune_eq (r : Int) : Lib.encodeRune r = B (Utf8.encode r) := by
  unfold Lib.encodeRune
  by_cases h0 : r < 0 ∨ (55296 ≤ r ∧ r ≤ 57343) ∨ 1114111 < r
  · rw [Lib.encodeRuneZ_bad h0, enc_bad h0]
    show _ = utfN 65533
    rw [utf_bad]
    rfl
  · obtain ⟨n, rfl⟩ : ∃ n : Nat, r = n := ⟨r.toNat, by omega⟩
    have hg : goodR n := by unfold goodR; omega
    show _ = utfN n
    rcases Nat.lt_or_ge n 128 with h1 | h1
    · rw [Lib.encodeRuneZ_one (by omega) (by omega), utf_one h1]
      rfl
    · rcases Nat.lt_or_ge n 2048 with h2 | h2
      · rw [Lib.encodeRuneZ_two (by omega) (by omega), utf_two h1 h2]
        simp only [List.map_cons, List.map_nil, List.cons.injEq, and_true]
        refine ⟨congrArg UInt8.ofNat ?_, congrArg UInt8.ofNat ?_⟩ <;> omega
      · rcases Nat.lt_or_ge n 65536 with h3 | h3
        · rw [Lib.encodeRuneZ_three (by omega), utf_three hg h2 h3]
          simp only [List.map_cons, List.map_nil, List.cons.injEq, and_true]
          refine ⟨congrArg UInt8.ofNat ?_, congrArg UInt8.ofNat ?_, congrArg UInt8.ofNat ?_⟩ <;> omega
        · rw [Lib.encodeRuneZ_four (by omega) (by omega), utf_four hg h3]
          simp only [List.map_cons, List.map_nil, List.cons.injEq, and_true]
          refine ⟨congrArg UInt8.ofNat ?_, congrArg UInt8.ofNat ?_, congrArg UInt8.ofNat ?_, congrArg UInt8.ofNat ?_⟩ <;> omega
theorem runeCells_eq (r : Int) : Lib.runeCells r = Lib.byteCells (B (Utf8.encode r)) := by rw [← Lib.byteCells_encodeRune, encRune_eq]
theorem byteCells_app (a b : List UInt8) : Lib.byteCells (a ++ b) = Lib.byteCells a ++ Lib.byteCells b := by simp [Lib.byteCells]
/-- A row of bytes that was made. -/
def OwnB (w : World) (base : Nat) (v : Value) (l : List UInt8) : Prop := w.ownsRow base 5 1 v l.length (Lib.byteCells l)
theorem OwnB.keep {w w' : World} {base : Nat} {v : Value} {l : List UInt8} (h : OwnB w base v l) (hb : Below w.heap.size w w') : OwnB w' base v l := owns_but h (But.of_below hb) (S := fun _ => False) (fun _ _ h => h)
theorem OwnB.rd {w : World} {base : Nat} {v : Value} {l : List UInt8} (h : OwnB w base v l) : ∃ A c, v = .slice A l.length c ∧ RdB w A c l := by
  unfold OwnB at h
  rw [← row_b] at h
  obtain ⟨A, c, hv, hc, hr, _⟩ := own_rd h (row_one encOk_b l)
  refine ⟨A, c, hv, hr, hc, ?_⟩
  rcases h.2 with ⟨e, _⟩ | ⟨g, cap, cur, e, _, _, _, h2, _⟩
  · rw [hv, Value.slice.injEq] at e; rw [e.2.2]; exact Nat.zero_le _
  · rw [hv, Value.slice.injEq] at e; rw [e.2.2]; exact h2
/-- 'string(b)'. -/
theorem back_rd {w : World} {A : Option Addr} {c : Nat} {l : List UInt8} (h : RdB w A c l) : (convert 23 9 (.slice A l.length c)).run Tryd.prog w = .ok (.string (S l)) w := by
  by_cases h0 : 0 < l.length
  · obtain ⟨b, o, rfl, hc⟩ := h.cell h0
    exact run_convert_bytes_back w _ _ 5 ⟨b, o, none⟩ c l Tryd.underlying23 Tryd.underlying5 Tryd.underlying9 (fun j hj => by rw [Addr.add_lit]; exact hc j _ (List.getElem?_eq_getElem hj))
  · obtain rfl : l = [] := List.eq_nil_of_length_eq_zero (by omega)
    cases A with
    | none =>
      show (convert 23 9 (.slice none 0 c)).run Tryd.prog w = _
      rw [run_convert_bytes_string w 23 9 5 none 0 c Tryd.underlying23 Tryd.underlying5 Tryd.underlying9]
      rfl
    | some ad => exact run_convert_bytes_back w _ _ 5 ad c [] Tryd.underlying23 Tryd.underlying5 Tryd.underlying9 (fun j hj => absurd hj (by simp))

set_option maxHeartbeats 2000000 in
set_option maxRecDepth 100000 in
theorem encode_any (w : World) (A : Option Addr) (c : Nat) (l : List Int) (h : RdR w A c l) (hsz : l.length ≤ 1000000) (hr : ∀ x ∈ l, -2147483648 ≤ x ∧ x ≤ 2147483647) :
    Calls Tryd.prog 11 #[.slice A l.length c] w fun e w' => e = .returned (.string (S (encI l))) ∧ Below w.heap.size w w' := by
  have H := Lib.hid h
  have HR := Lib.hid hr
  clear h hr
  obtain ⟨n, hn⟩ : ∃ n, l.length = n := ⟨_, rfl⟩
  rw [hn] at hsz ⊢
  have HN := Lib.hid hn
  clear hn
  go_enter Tryd.func11, Tryd.ntmps11
  go_wp2_with fail
  go_loopw [3, 8] (fun ov i wr => ∃ j : Nat, j ≤ n ∧ i = .int .i64 j ∧ OwnB wr w.heap.size ov (encI (l.take j)) ∧ Below w.heap.size w wr) (fun _ i _ => n - (intOf i).toNat)
  case atStart => exact ⟨0, Nat.zero_le _, rfl, by rw [List.take_zero]; exact World.ownsRow_nil _ _ _ _, Below.refl _ _⟩
  case round =>
    obtain ⟨j, hj, rfl, ho, hb⟩ := hrel
    have HO := Lib.hid ho
    have HB := Lib.hid hb
    clear ho hb
    by_cases hlt : j < n
    · have hj1 : j < l.length := by rw [HN.out]; exact hlt
      obtain ⟨x, hx⟩ : ∃ x, l[j]? = some x := ⟨_, List.getElem?_eq_getElem hj1⟩
      obtain ⟨b, o, eA, hc⟩ := (H.out.keep HB.out).cell (by omega)
      have k1 := hc j x hx
      have s1 : IntKind.i64.wrap ((j : Int) + 1) = (j : Int) + 1 := IntWalk.i64_in _ (by omega)
      have d0 : decide ((j : Int) < (n : Int)) = true := decide_eq_true (by omega)
      obtain ⟨r0, r1⟩ := HR.out x (List.mem_of_getElem? hx)
      have hlen : (encI (l.take j)).length ≤ 4 * n := by
        have := enc_len (l.take j)
        rw [List.length_take] at this
        omega
      have hC := Tryd.utf8_AppendRune_plain w.heap.size u3 _ (Lib.byteCells (encI (l.take j))) x r0 r1 wr HO.out (by omega) HB.out.size
      have ht : l.take (j + 1) = l.take j ++ [x] := by
        rw [List.take_add_one, hx]; rfl
      have he : encI (l.take (j + 1)) = encI (l.take j) ++ B (Utf8.encode x) := by
        rw [ht, encI_app, encI_cons, encI_nil, List.append_nil]
      have HC := Lib.hid hC
      have HE := Lib.hid he
      subst eA
      clear hx hj1 hC hc ht he
      go_wp2_with (go_at_call 22; with_reducible refine HC.out.mono ?_; rintro e w1 ⟨v1, rfl, hown1, o1, hg1⟩)
      refine ⟨⟨j + 1, by omega, by go_num, ?_, made_grown (HB.out.alloc HB.out.size o1) hg1 (fun k hk => (HO.out.lt k hk).1)⟩, by simp [intOf]; omega⟩
      unfold OwnB
      rw [HE.out, List.length_append, byteCells_app, ← runeCells_eq]
      rw [runeCells_eq, Lib.byteCells_length] at hown1
      rw [runeCells_eq]
      exact hown1
    · have d0 : decide ((j : Int) < (n : Int)) = false := decide_eq_false (by omega)
      have ej : l.take j = l := List.take_of_length_le (by rw [HN.out]; omega)
      rw [ej] at HO
      obtain ⟨A2, c2, e2, hr2⟩ := HO.out.rd
      subst e2
      have kc := back_rd hr2
      clear hr2 ej
      go_wp2_with fail
      go_ret
      exact ⟨rfl, HB.out⟩

set_option maxHeartbeats 2000000 in
set_option maxRecDepth 100000 in
theorem encode_ref (w : World) (A : Option Addr) (c : Nat) (l : List Int) (h : RdR w A c l) (hsz : l.length ≤ 1000000) :
    Calls Tryd.prog 12 #[.slice A l.length c] w fun e w' => e = .returned (.string (S (encI l))) ∧ w = w' := by
  have H := Lib.hid h
  clear h
  obtain ⟨n, hn⟩ : ∃ n, l.length = n := ⟨_, rfl⟩
  rw [hn] at hsz ⊢
  have HN := Lib.hid hn
  clear hn
  go_enter Tryd.func12, Tryd.ntmps12
  go_wp2_with fail
  go_loopw [3, 4] (fun sv i wr => ∃ (j : Nat) (s : ByteArray), j ≤ n ∧ i = .int .i64 j ∧ sv = .string s ∧ B s = encI (l.take j) ∧ w = wr) (fun _ i _ => n - (intOf i).toNat)
  case atStart => exact ⟨0, _, Nat.zero_le _, rfl, rfl, rfl, rfl⟩
  case round =>
    obtain ⟨j, s, hj, rfl, rfl, hs, rfl⟩ := hrel
    have HS := Lib.hid hs
    clear hs
    by_cases hlt : j < n
    · have hj1 : j < l.length := by rw [HN.out]; exact hlt
      obtain ⟨x, hx⟩ : ∃ x, l[j]? = some x := ⟨_, List.getElem?_eq_getElem hj1⟩
      obtain ⟨b, o, eA, hc⟩ := H.out.cell (by omega)
      have k1 := hc j x hx
      have s1 : IntKind.i64.wrap ((j : Int) + 1) = (j : Int) + 1 := IntWalk.i64_in _ (by omega)
      have d0 : decide ((j : Int) < (n : Int)) = true := decide_eq_true (by omega)
      have hlen : s.size ≤ 4 * n := by
        have := enc_len (l.take j)
        rw [List.length_take] at this
        rw [size_B, HS.out]
        omega
      have hes := encode_size_le x
      have hsum : s.size + (Utf8.encode x).size ≤ 9223372036854775807 := by omega
      have ht : l.take (j + 1) = l.take j ++ [x] := by
        rw [List.take_add_one, hx]; rfl
      have he : B (s ++ Utf8.encode x) = encI (l.take (j + 1)) := by
        rw [ht, encI_app, encI_cons, encI_nil, List.append_nil, ← HS.out]
        simp [B]
      have HE := Lib.hid he
      subst eA
      clear hx hj1 hc ht he
      go_wp2_with fail
      exact ⟨⟨j + 1, _, by omega, by go_num, by first | exact True.intro | rfl, HE.out, by first | exact True.intro | rfl⟩, by simp [intOf]; omega⟩
    · have d0 : decide ((j : Int) < (n : Int)) = false := decide_eq_false (by omega)
      have ej : l.take j = l := List.take_of_length_le (by rw [HN.out]; omega)
      rw [ej] at HS
      clear ej
      go_wp2_with fail
      go_ret
      refine ⟨?_, rfl⟩
      rw [← HS.out, S_B]
      rfl
end Go.Proofs.YtpdbbpmkdkjppaaDoor
