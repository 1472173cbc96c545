/- Lines: what is built of runes and ends of lines, made ready; arbourkeep.Head, arbourbook.Within; a text decoded at a place. -/
import Derived.Test.YtpdbbpmkdkjppaaDoorUtfX
import Derived.Test.YtpdbbpmkdkjppaaDoorUtfBack
import Derived.Laws.Runes
import Derived.LoopN
namespace Go.Proofs.YtpdbbpmkdkjppaaDoor
open Go.ChangeShapes Go.WideShapes Go.ChangeAt Go.RowKit Go.Lib Go.Deep

theorem headU_any (s : ByteArray) (n : Nat) (w : World) (_hs : s.size ≤ 9223372036854775807) :
    Calls Tryd.prog 16 #[.string s, .int .i64 n] w fun e w' => e = .returned (.string (headB s n)) ∧ w = w' := by
  by_cases hlt : n < s.size
  · go_enter Tryd.func16, Tryd.ntmps16
    go_wp2_with fail
    go_ret
    exact ⟨ret_strU (by unfold headB; rw [if_pos hlt]), rfl⟩
  · go_enter Tryd.func16, Tryd.ntmps16
    go_wp2_with fail
    go_ret
    exact ⟨ret_strU (by unfold headB; rw [if_neg hlt]), rfl⟩
theorem ret_intU {k : IntKind} {a b : Int} (h : a = b) : Ending.returned (.int k a) = .returned (.int k b) := by rw [h]
theorem withinU_any (n lo hi : Int) (w : World) (h0 : 0 ≤ lo) (h : lo ≤ hi) (h2 : hi ≤ 140737488355328) :
    Calls Tryd.prog 17 #[.int .i64 n, .int .i64 lo, .int .i64 hi] w fun e w' => e = .returned (.int .i64 (withinI n lo hi)) ∧ w = w' := by
  have h1 := Int.tmod_lt_of_pos n (show 0 < hi - lo + 1 by omega)
  have h3 := Int.lt_tmod_of_pos n (show 0 < hi - lo + 1 by omega)
  have e : ((hi - lo + 1) == 0) = false := by rw [beq_eq_false_iff_ne]; omega
  go_enter Tryd.func17, Tryd.ntmps17
  go_wp2_with fail
  · go_ret
    exact ⟨ret_intU (by unfold withinI; rw [if_pos (by assumption)]), rfl⟩
  · go_ret
    exact ⟨ret_intU (by unfold withinI; rw [if_neg (by omega)]), rfl⟩

/-! ### a text decoded at a place -/
theorem valid_good {c : Nat} (h : Utf8.valid (c : Int) = true) : goodR c := by
  unfold Utf8.valid at h
  unfold goodR
  rw [Bool.or_eq_true, Bool.and_eq_true, Bool.and_eq_true] at h
  simp only [decide_eq_true_eq] at h
  omega
theorem decode_good (s : ByteArray) (i : Nat) : goodR (Utf8.decode s i).1 := by
  unfold Utf8.decode
  simp only
  split
  · exact .inl (by have := (s.get! (i + 0)).toNat_lt; omega)
  split
  · split
    · exact .inl (by omega)
    · exact good_bad
  split
  · split
    · rename_i h
      rw [Bool.and_eq_true] at h
      exact valid_good h.2
    · exact good_bad
  split
  · split
    · rename_i h
      rw [Bool.and_eq_true] at h
      exact valid_good h.2
    · exact good_bad
  · exact good_bad
theorem width_oneU (s : ByteArray) (pos : Nat) (h : pos < s.size) : 1 ≤ (Utf8.decode s pos).2 := by
  by_cases ha : (s[pos]'h).toNat < 128
  · rw [decode_ascii s pos h ha]
    exact Nat.le_refl _
  · exact (decode_high s pos h (by omega)).2
theorem iter_belowU (w : World) (s : ByteArray) (pos : Nat) : Below w.heap.size w (w.iter s pos) := (Below.refl _ _).alloc (Nat.le_refl _) _
theorem app_BU (a b : ByteArray) : B (a ++ b) = B a ++ B b := by
  unfold B
  simp only [ByteArray.data_append, Array.toList_append]

/-! ### lines -/
def endU (e : Nat) : List Int := if e = 0 then [10] else if e = 1 then [13, 10] else [13]
def CleanR (rs : List Int) : Prop := ∀ x ∈ rs, GoodI x ∧ x ≠ 10 ∧ x ≠ 13 ∧ x ≠ 0
inductive LinesU : List Int → List Int → Prop
  | base : LinesU [120] [120]
  | step {A Bl rs : List Int} (e : Nat) (h : LinesU A Bl) (hr : CleanR rs) : LinesU (A ++ (rs ++ 122 :: endU e)) (Bl ++ (rs ++ [122, 10]))
theorem prep_pass : ∀ (rs U : List Int), CleanR rs → prepR (rs ++ U) = rs ++ prepR U
  | [], U, _ => rfl
  | x :: rs, U, h => by
    obtain ⟨_, _, h13, h0⟩ := h x (by simp)
    rw [List.cons_append, prepR_cons, step_old _ h13 h0, prep_pass rs U (fun y hy => h y (List.mem_cons_of_mem _ hy))]
    rfl
theorem prep_end (e : Nat) (T : List Int) (hT : T.head? ≠ some 10) : prepR (endU e ++ T) = 10 :: prepR T := by
  unfold endU
  split
  · rw [List.cons_append, List.nil_append, prepR_cons, step_old _ (by decide) (by decide)]
    rfl
  split
  · simp only [List.cons_append, List.nil_append]
    rw [prepR_cons, step_cut rfl, prepR_cons, step_old _ (by decide) (by decide)]
    rfl
  · rw [List.cons_append, List.nil_append, prepR_cons, step_ten hT]
    rfl
theorem lines_prep {A Bl : List Int} (h : LinesU A Bl) : ∀ T : List Int, T.head? ≠ some 10 → prepR (A ++ T) = Bl ++ prepR T := by
  induction h with
  | base =>
    intro T _
    rw [List.cons_append, List.nil_append, prepR_cons, step_old _ (by decide) (by decide)]
    try rfl
  | step e h hr ih =>
    rename_i A Bl rs
    intro T hT
    rw [List.append_assoc, ih _ (by
      cases rs with
      | nil => simp
      | cons x t =>
        have := (hr x (by simp)).2.1
        simpa using this)]
    rw [List.append_assoc, prep_pass _ _ hr, List.cons_append, prepR_cons, step_old _ (by decide) (by decide), prep_end e T hT]
    simp only [List.append_assoc, List.cons_append, List.nil_append]
theorem lines_good {A Bl : List Int} (h : LinesU A Bl) : (∀ x ∈ A, GoodI x) ∧ ∃ t, A = 120 :: t := by
  induction h with
  | base =>
    refine ⟨fun x hx => ?_, [], rfl⟩
    rw [List.mem_singleton.1 hx]
    exact ⟨120, .inl (by omega), rfl⟩
  | step e h hr ih =>
    obtain ⟨h1, t, rfl⟩ := ih
    refine ⟨fun x hx => ?_, _, rfl⟩
    rcases List.mem_append.1 hx with hx | hx
    · exact h1 x hx
    rcases List.mem_append.1 hx with hx | hx
    · exact (hr x hx).1
    rcases List.mem_cons.1 hx with rfl | hx
    · exact ⟨122, .inl (by omega), rfl⟩
    · unfold endU at hx
      split at hx
      · rw [List.mem_singleton.1 hx]; exact ⟨10, .inl (by omega), rfl⟩
      split at hx
      · simp only [List.mem_cons, List.mem_nil_iff, or_false] at hx
        rcases hx with rfl | rfl
        · exact ⟨13, .inl (by omega), rfl⟩
        · exact ⟨10, .inl (by omega), rfl⟩
      · rw [List.mem_singleton.1 hx]; exact ⟨13, .inl (by omega), rfl⟩
theorem lines_dec {A Bl : List Int} (h : LinesU A Bl) : encI (prepR (decU (encI A))) = encI Bl := by
  rw [dec_enc0 A (lines_good h).1]
  have := lines_prep h [] (by simp)
  rw [List.append_nil] at this
  rw [this]
  show encI (Bl ++ []) = _
  rw [List.append_nil]
/-- Made ready, with a mark ahead or none. -/
theorem lines_ready {A Bl : List Int} (h : LinesU A Bl) : prepU (encI A) = encI Bl := by
  obtain ⟨_, t, ht⟩ := lines_good h
  have hm : markU (encI A) = false := by
    rw [ht, show (120 : Int) = ((120 : Nat) : Int) from rfl, enc_low (by decide)]
    rfl
  unfold prepU trimU
  rw [hm, if_neg (by decide)]
  exact lines_dec h
theorem lines_ready2 {A Bl : List Int} (h : LinesU A Bl) : prepU ([239, 187, 191] ++ encI A) = encI Bl := by
  have hm : markU ([239, 187, 191] ++ encI A) = true := by
    unfold markU Lib.hasPrefix
    simp [List.isPrefixOf]
  unfold prepU trimU
  rw [hm, if_pos rfl]
  exact lines_dec h

/-! ### an argument that is a slice of texts -/
def enc_t : ByteArray → List Value := fun x => [.string x]
theorem encOk_t : EncOk enc_t 1 := fun x => ⟨rfl, fun u hu => List.all_eq_true.1 (show (enc_t x).all (fun u => u.oneCell') = true from rfl) u hu⟩
def RdT (w : World) (A : Option Addr) (c : Nat) (l : List ByteArray) : Prop := Rd w A l.length 1 (l.flatMap enc_t) ∧ l.length ≤ c ∧ c ≤ maxLen
theorem RdT.keep {w w' : World} {A : Option Addr} {c : Nat} {l : List ByteArray} (h : RdT w A c l) (hb : Below w.heap.size w w') : RdT w' A c l := ⟨h.1.keep hb, h.2⟩
theorem RdT.cell {w : World} {A : Option Addr} {c : Nat} {l : List ByteArray} (h : RdT w A c l) (h0 : 0 < l.length) : ∃ b o, A = some ⟨b, o, none⟩ ∧ ∀ j x, l[j]? = some x → w.cell? ⟨b, o + j, none⟩ = some (.string x) := by
  obtain ⟨ad, rfl, hc⟩ := h.1.2.2 h0
  obtain ⟨b, o, sp⟩ := ad
  have hx : ∀ j x, l[j]? = some x → w.cell? ((⟨b, o, sp⟩ : Addr).add j) = some (.string x) := fun j x hj => hc j _ (by have := row_at encOk_t l j 0 x _ hj rfl; simpa using this)
  have h00 := hx 0 (l[0]'h0) (List.getElem?_eq_getElem h0)
  have e0 : (⟨b, o, sp⟩ : Addr).add 0 = ⟨b, o, sp⟩ := by simp [Addr.add]
  rw [e0] at h00
  obtain rfl := cell_spot h00
  refine ⟨b, o, rfl, fun j x hj => ?_⟩
  have := hx j x hj
  rwa [Addr.add_lit] at this
section
variable {H : Type} {enc : TypeId × Value → H} {P : Program} {w : World} {base : Nat} {held : Bool}
theorem rd_texts {t e : TypeId} (ht : P.underlying t = some (.slice e)) (he : P.underlying e = some .string) (hC : P.cellsOf e = 1)
    {A : Option Addr} {n c : Nat} (h : Told enc P w base held t (.slice A n c)) :
    ∃ l : List ByteArray, n = l.length ∧ RdT w A c l ∧ ∀ x ∈ l, x.size ≤ maxLen := by
  obtain ⟨fuel, y, hfu⟩ := h
  rcases open_slice ht hfu with ⟨hcs, _⟩ | ⟨a, len, cap, m, k', D, Pl, hcs, _, hl, hm, hmm, _, hi⟩
  · simp at hcs
    obtain ⟨rfl, rfl, rfl⟩ := hcs
    exact ⟨[], rfl, ⟨⟨by simp, by simp, fun h => absurd h (by simp)⟩, Nat.le_refl _, Nat.zero_le _⟩, by simp⟩
  · simp at hcs
    obtain ⟨rfl, rfl, rfl⟩ := hcs
    have hmc : m = c := by simpa using hmm
    obtain ⟨l, hll, hp⟩ := listOf n (fun i (y : ByteArray) => y.size ≤ maxLen ∧ ∀ j u, (enc_t y)[j]? = some u → w.cell? (a.add (i * 1 + j)) = some u) (fun i hin => by
      obtain ⟨cs', hcl, htr⟩ := hi i (by omega)
      rw [hC] at hcl
      obtain ⟨_, hlen, hat⟩ := World.cells?_some hcl
      match cs', hlen with
      | [v], _ =>
        obtain ⟨z, hz, _, hsz⟩ := DataW.trod_string he htr
        obtain rfl : v = .string z := by simpa using hz
        refine ⟨z, hsz, fun j u hu => ?_⟩
        have hj : j < 1 := (List.getElem?_eq_some_iff.1 hu).1
        rw [← Go.Deep.add_add, hat j (by omega)]
        exact hu)
    subst hll
    refine ⟨l, rfl, ⟨rd_of encOk_t (by decide) rfl (fun i y hy => (hp i y hy).2), hl, hm⟩, fun x hx => ?_⟩
    obtain ⟨i, hi2, he2⟩ := List.getElem_of_mem hx
    exact (hp i x (by rw [List.getElem?_eq_getElem hi2, he2])).1
end
end Go.Proofs.YtpdbbpmkdkjppaaDoor
