/- TagValues' plain law: a value, escaped and in quotes, comes back. No program in sight. -/
import Derived.Test.YtmlaaonmofgidaaTagLostL
import Derived.KernelRfl
namespace Go.Proofs.Ytmlaaonmofgidaa
open Go.RowKit

def escC (c : UInt8) : List UInt8 := if c = 38 then [38, 97, 109, 112, 59] else if c = 34 then [38, 113, 117, 111, 116, 59] else if c = 39 then [38, 35, 51, 57, 59] else [c]
def escW (l : List UInt8) : List UInt8 := l.flatMap escC
theorem refS_name0 {attr : Bool} {l : List UInt8} (h : foldL l [38, 35, 120] 0 = false) (h2 : startsL l [38, 35] 0 = false) : refS attr l = nameS attr l := by
  unfold refS; rw [if_neg (by rw [h]; decide), if_neg (by rw [h2]; decide)]
theorem refW_amp (r : List UInt8) : refS true (38 :: 97 :: 109 :: 112 :: 59 :: r) = ([38], 5) := by
  rw [refS_name0 (by kernel_rfl) (by kernel_rfl)]
  unfold nameS
  simp only [List.drop_succ_cons, List.drop_zero]
  rw [show namedR (97 :: 109 :: 112 :: 59 :: r) = (⟨#[97, 109, 112, 59]⟩, ⟨#[38]⟩) from by kernel_rfl]
  rw [if_neg (by decide), if_neg]
  · rfl
  · show ¬ ((true && (some (59 : UInt8) != some 59) && _) = true)
    simp
theorem refW_quot (r : List UInt8) : refS true (38 :: 113 :: 117 :: 111 :: 116 :: 59 :: r) = ([34], 6) := by
  rw [refS_name0 (by kernel_rfl) (by kernel_rfl)]
  unfold nameS
  simp only [List.drop_succ_cons, List.drop_zero]
  rw [show namedR (113 :: 117 :: 111 :: 116 :: 59 :: r) = (⟨#[113, 117, 111, 116, 59]⟩, ⟨#[34]⟩) from by kernel_rfl]
  rw [if_neg (by decide), if_neg]
  · rfl
  · show ¬ ((true && (some (59 : UInt8) != some 59) && _) = true)
    simp
theorem refW_apos (r : List UInt8) : refS true (38 :: 35 :: 51 :: 57 :: 59 :: r) = ([39], 5) := by kernel_rfl
theorem all_escW : ∀ l : List UInt8, allR true (escW l) = l
  | [] => rfl
  | c :: l => by
    have ih := all_escW l
    show allR true (escC c ++ escW l) = _
    unfold escC
    split
    · rename_i h
      subst h
      show allR true (38 :: 97 :: 109 :: 112 :: 59 :: escW l) = _
      rw [allR_amp, refW_amp]
      show [38] ++ allR true (escW l) = _
      rw [ih]; rfl
    · rename_i h
      split
      · rename_i h2
        subst h2
        show allR true (38 :: 113 :: 117 :: 111 :: 116 :: 59 :: escW l) = _
        rw [allR_amp, refW_quot]
        show [34] ++ allR true (escW l) = _
        rw [ih]; rfl
      · split
        · rename_i h3
          subst h3
          show allR true (38 :: 35 :: 51 :: 57 :: 59 :: escW l) = _
          rw [allR_amp, refW_apos]
          show [39] ++ allR true (escW l) = _
          rw [ih]; rfl
        · show allR true (c :: escW l) = _
          rw [allR_other true c _ h, ih]
theorem escW_free (l : List UInt8) : ∀ c ∈ escW l, c ≠ 34 ∧ c ≠ 39 := by
  intro c hc
  obtain ⟨x, _, hx⟩ := List.mem_flatMap.1 hc
  unfold escC at hx
  split at hx
  · clear hc; revert c; decide
  · split at hx
    · clear hc; revert c; decide
    · split at hx
      · clear hc; revert c; decide
      · rename_i _ h2 h3
        rw [List.mem_singleton] at hx
        rw [hx]; exact ⟨h2, h3⟩
theorem escW_len (l : List UInt8) : (escW l).length ≤ 6 * l.length := by
  induction l with
  | nil => simp [escW]
  | cons c l ih =>
    show (escC c ++ escW l).length ≤ _
    rw [List.length_append, List.length_cons]
    have : (escC c).length ≤ 6 := by unfold escC; (repeat' split) <;> simp
    omega
theorem stop_at {p : UInt8 → Bool} {l : List UInt8} {i : Nat} {c : UInt8} (h : l[i]? = some c) (hp : p c = false) : stopL p l i = i := stopL_stop p l i (lt_of_at h) (by rw [at_get h (lt_of_at h)]; exact hp)
theorem stop_on {p : UInt8 → Bool} {l : List UInt8} {i : Nat} {c : UInt8} (h : l[i]? = some c) (hp : p c = true) : stopL p l i = stopL p l (i + 1) := (stopL_step p l i (lt_of_at h) (by rw [at_get h (lt_of_at h)]; exact hp)).symm
theorem take_free (q : UInt8) : ∀ (a r : List UInt8), (∀ c ∈ a, c ≠ q) → (a ++ q :: r).takeWhile (fun x => x != q) = a
  | [], r, _ => by rw [List.nil_append, List.takeWhile_cons, if_neg (by simp)]
  | c :: a, r, h => by
    rw [List.cons_append, List.takeWhile_cons, if_pos (by rw [bne_iff_ne]; exact h c List.mem_cons_self), take_free q a r (fun x hx => h x (List.mem_cons_of_mem _ hx))]
def tailT : List UInt8 := [32, 73, 68, 61, 111, 116, 104, 101, 114, 32, 98, 61, 99, 62]
def wholeT (q : UInt8) (w : List UInt8) : List UInt8 := [60, 97, 32, 105, 100, 61, q] ++ w ++ [q] ++ tailT
theorem whole_len (q : UInt8) (w : List UInt8) : (wholeT q w).length = w.length + 22 := by unfold wholeT tailT; simp
theorem whole_tail (q : UInt8) (w : List UInt8) (j : Nat) : (wholeT q w)[w.length + 8 + j]? = tailT[j]? := by
  unfold wholeT
  rw [List.getElem?_append_right (by simp)]
  congr 1
  simp
theorem whole_drop (q : UInt8) (w : List UInt8) (j : Nat) : (wholeT q w).drop (w.length + 8 + j) = tailT.drop j := by
  unfold wholeT
  rw [show w.length + 8 + j = ([60, 97, 32, 105, 100, 61, q] ++ w ++ [q]).length + j by simp, ← List.drop_drop, List.drop_left]
def idA (v : List UInt8) : At := ⟨S [105, 100], S v⟩
def bA : At := ⟨S [98], S [99]⟩
theorem S_ne {a b : List UInt8} (h : a ≠ b) : S a ≠ S b := fun e => h (by have := congrArg B e; exact this)
section
variable {q : UInt8} (hq : q = 34 ∨ q = 39) (l : List UInt8)
include hq
theorem value_one : attrT (wholeT q (escW l)) 3 = (idA l, (escW l).length + 8, 1) := by
  have hlen := whole_len q (escW l)
  have h3 : (wholeT q (escW l))[3]? = some 105 := rfl
  have h4 : (wholeT q (escW l))[4]? = some 100 := rfl
  have h5 : (wholeT q (escW l))[5]? = some 61 := rfl
  have h6 : (wholeT q (escW l))[6]? = some q := rfl
  have hne : nameEnd (wholeT q (escW l)) 3 = 5 := by
    unfold nameEnd
    rw [Nat.min_eq_left (by rw [hlen]; omega)]
    unfold untilL
    rw [stop_on h4 (by decide), stop_at h5 (by decide)]
  have hfree : ∀ c ∈ escW l, c ≠ q := fun c hc => by
    have := escW_free l c hc
    rcases hq with rfl | rfl
    · exact this.1
    · exact this.2
  have hd7 : (wholeT q (escW l)).drop 7 = escW l ++ q :: tailT := by
    unfold wholeT
    rw [List.append_assoc, List.append_assoc]
    rfl
  have hfind : findL (wholeT q (escW l)) [q] 7 = 7 + (escW l).length := by
    rw [find_byte _ _ _ (by rw [hlen]; omega)]
    unfold stopL
    rw [hd7, take_free q _ _ hfree]
  have hp : pieceL (wholeT q (escW l)) 7 (7 + (escW l).length) = escW l := by
    unfold pieceL
    rw [hd7, show 7 + (escW l).length - 7 = (escW l).length by omega, List.take_left]
  have hv : valueT (wholeT q (escW l)) 6 = (l, 7 + (escW l).length + 1, 1) := by
    unfold valueT
    rw [h6]
    simp only
    rw [if_pos hq]
    unfold quotT
    rw [show 6 + 1 = 7 from rfl, hfind, if_neg (by rw [hlen]; omega), hp, all_escW]
  have hqs : spaceB q = false := by rcases hq with rfl | rfl <;> decide
  unfold attrT
  rw [hne, if_neg (by rw [hlen]; omega)]
  unfold attrV
  have hs5 : skipL (wholeT q (escW l)) 5 = 5 := stop_at h5 (by decide)
  have hs6 : skipL (wholeT q (escW l)) 6 = 6 := stop_at h6 hqs
  have hst : startsL (wholeT q (escW l)) [61] 5 = true := rfl
  rw [hs5, hst, if_pos rfl, show 5 + 1 = 6 from rfl, hs6, hv]
  simp only
  rw [if_neg (by decide)]
  have hpn : pieceL (wholeT q (escW l)) 3 5 = [105, 100] := rfl
  rw [hpn]
  have e1 : 7 + (escW l).length + 1 = (escW l).length + 8 := by omega
  rw [e1]
  rfl
theorem bare_attr {x : List UInt8} {k n m u : Nat} {nm tx : List UInt8} (hk : k < x.length) (hne : nameEnd x k = n) (hn : n < x.length) (hs : x[n]? = some 61) (hvk : x[n + 1]? = some m.toUInt8) (hvs : spaceB m.toUInt8 = false) (hv1 : m.toUInt8 ≠ 34) (hv2 : m.toUInt8 ≠ 39) (hv3 : m.toUInt8 ≠ 62)
    (hu : untilL x valEnd (n + 1) = u) (hul : u < x.length) (hpn : lowL (pieceL x k n) = nm) (htx : allR true (pieceL x (n + 1) u) = tx) : attrT x k = (⟨S nm, S tx⟩, u, 1) := by
  have _ := hk
  have _ := hq
  unfold attrT
  rw [hne, if_neg (by omega)]
  unfold attrV
  have hs5 : skipL x n = n := stop_at hs (by decide)
  have hs6 : skipL x (n + 1) = n + 1 := stop_at hvk hvs
  have hst : startsL x [61] n = true := by
    unfold startsL Lib.occAt
    have : (x.drop n).head? = some 61 := by rw [List.head?_drop]; exact hs
    cases hd : x.drop n with
    | nil => rw [hd] at this; cases this
    | cons a r =>
      rw [hd] at this
      obtain rfl : a = 61 := Option.some.inj this
      show (61 == 61 && List.isPrefixOf [] r) = true
      simp
  have hv : valueT x (n + 1) = (tx, u, 1) := by
    unfold valueT
    rw [hvk]
    simp only
    rw [if_neg (by rintro (e | e); exact hv1 e; exact hv2 e), if_neg hv3]
    unfold bareT
    rw [hu, if_neg (by omega), htx]
  rw [hs5, hst, if_pos rfl, hs6, hv]
  simp only
  rw [if_neg (by decide), hpn]
theorem read_values : ∃ t, readT (wholeT q (escW l)) 0 = (t, (((wholeT q (escW l)).length : Nat) : Int), true) ∧ t.attrs = [idA l, bA] ∧ t.self = false := by
  have hlen := whole_len q (escW l)
  have ho : Opens (wholeT q (escW l)) 1 := .inl ⟨rfl, _, rfl⟩
  have hT := fun j => whole_tail q (escW l) j
  have hD := fun j => whole_drop q (escW l) j
  have h1 : (wholeT q (escW l))[1]? = some 97 := rfl
  have h2 : (wholeT q (escW l))[2]? = some 32 := rfl
  have h3 : (wholeT q (escW l))[3]? = some 105 := rfl
  have hv1 := value_one hq l
  have hba := fun {k n m u nm tx} => @bare_attr q hq (wholeT q (escW l)) k n m u nm tx
  have hen : endsAt (wholeT q (escW l)) 0 = false := rfl
  generalize hx : wholeT q (escW l) = x at *
  generalize (escW l).length = M at *
  have t0 : x[M + 8 + 0]? = some 32 := hT 0
  have t1 : x[M + 8 + 1]? = some 73 := hT 1
  have t2 : x[M + 8 + 2]? = some 68 := hT 2
  have t3 : x[M + 8 + 3]? = some 61 := hT 3
  have t4 : x[M + 8 + 4]? = some 111 := hT 4
  have t5 : x[M + 8 + 5]? = some 116 := hT 5
  have t6 : x[M + 8 + 6]? = some 104 := hT 6
  have t7 : x[M + 8 + 7]? = some 101 := hT 7
  have t8 : x[M + 8 + 8]? = some 114 := hT 8
  have t9 : x[M + 8 + 9]? = some 32 := hT 9
  have t10 : x[M + 8 + 10]? = some 98 := hT 10
  have t11 : x[M + 8 + 11]? = some 61 := hT 11
  have t12 : x[M + 8 + 12]? = some 99 := hT 12
  have t13 : x[M + 8 + 13]? = some 62 := hT 13
  have hnm : nameL x 1 = 2 := by
    unfold nameL untilL
    rw [stop_on h1 (by decide), stop_at h2 (by decide)]
  -- the first attribute
  have r1 : restT x 2 [] false = restT x (M + 8) [idA l] false := by
    rw [restT_step _ _ _ _ (by omega)]
    have hs : skipL x 2 = 3 := by unfold skipL; rw [stop_on h2 (by decide), stop_at h3 (by decide)]
    rw [hs, h3]
    simp only
    rw [if_neg (by decide), if_neg (by decide), hv1]
    simp only
    rw [if_neg (by decide), if_neg (by decide)]
    rfl
  have a2 : attrT x (M + 8 + 1) = (⟨S [105, 100], S [111, 116, 104, 101, 114]⟩, M + 8 + 9, 1) := by
    refine hba (m := 111) (by omega) (n := M + 8 + 3) ?_ (by omega) t3 t4 (by decide) (by decide) (by decide) (by decide) ?_ (by omega) ?_ ?_
    · unfold nameEnd
      rw [Nat.min_eq_left (by omega)]
      unfold untilL
      rw [show M + 8 + 1 + 1 = M + 8 + 2 from rfl, stop_on t2 (by decide), show M + 8 + 2 + 1 = M + 8 + 3 from rfl, stop_at t3 (by decide)]
    · unfold untilL
      rw [show M + 8 + 3 + 1 = M + 8 + 4 from rfl, stop_on t4 (by decide), show M + 8 + 4 + 1 = M + 8 + 5 from rfl, stop_on t5 (by decide), show M + 8 + 5 + 1 = M + 8 + 6 from rfl, stop_on t6 (by decide), show M + 8 + 6 + 1 = M + 8 + 7 from rfl, stop_on t7 (by decide), show M + 8 + 7 + 1 = M + 8 + 8 from rfl, stop_on t8 (by decide), show M + 8 + 8 + 1 = M + 8 + 9 from rfl, stop_at t9 (by decide)]
    · unfold pieceL
      rw [hD 1, show M + 8 + 3 - (M + 8 + 1) = 2 by omega]
      rfl
    · unfold pieceL
      rw [show M + 8 + 3 + 1 = M + 8 + 4 from rfl, hD 4, show M + 8 + 9 - (M + 8 + 4) = 5 by omega]
      rfl
  have r2 : restT x (M + 8) [idA l] false = restT x (M + 8 + 9) [idA l] false := by
    rw [restT_step _ _ _ _ (by omega)]
    have hs : skipL x (M + 8) = M + 8 + 1 := by unfold skipL; rw [show M + 8 = M + 8 + 0 from rfl, stop_on t0 (by decide), stop_at t1 (by decide)]
    rw [hs, t1]
    simp only
    rw [if_neg (by decide), if_neg (by decide), a2]
    simp only
    rw [if_neg (by decide), if_neg (by decide)]
    congr 1
    unfold addA
    rw [if_pos]
    rw [List.any_cons, Bool.or_eq_true]
    exact .inl (nameP_iff.2 rfl)
  have a3 : attrT x (M + 8 + 10) = (bA, M + 8 + 13, 1) := by
    refine hba (m := 99) (nm := [98]) (tx := [99]) (by omega) (n := M + 8 + 11) ?_ (by omega) t11 t12 (by decide) (by decide) (by decide) (by decide) ?_ (by omega) ?_ ?_
    · unfold nameEnd
      rw [Nat.min_eq_left (by omega)]
      unfold untilL
      rw [show M + 8 + 10 + 1 = M + 8 + 11 from rfl, stop_at t11 (by decide)]
    · unfold untilL
      rw [show M + 8 + 11 + 1 = M + 8 + 12 from rfl, stop_on t12 (by decide), show M + 8 + 12 + 1 = M + 8 + 13 from rfl, stop_at t13 (by decide)]
    · unfold pieceL
      rw [hD 10, show M + 8 + 11 - (M + 8 + 10) = 1 by omega]
      rfl
    · unfold pieceL
      rw [show M + 8 + 11 + 1 = M + 8 + 12 from rfl, hD 12, show M + 8 + 13 - (M + 8 + 12) = 1 by omega]
      rfl
  have r3 : restT x (M + 8 + 9) [idA l] false = restT x (M + 8 + 13) [idA l, bA] false := by
    rw [restT_step _ _ _ _ (by omega)]
    have hs : skipL x (M + 8 + 9) = M + 8 + 10 := by unfold skipL; rw [stop_on t9 (by decide), show M + 8 + 9 + 1 = M + 8 + 10 from rfl, stop_at t10 (by decide)]
    rw [hs, t10]
    simp only
    rw [if_neg (by decide), if_neg (by decide), a3]
    simp only
    rw [if_neg (by decide), if_neg (by decide)]
    congr 1
    unfold addA
    rw [if_neg]
    · rfl
    · intro h
      rw [List.any_cons, Bool.or_eq_true] at h
      rcases h with h | h
      · exact S_ne (a := [105, 100]) (b := [98]) (by decide) (nameP_iff.1 h)
      · cases h
  have r4 : restT x (M + 8 + 13) [idA l, bA] false = some ([idA l, bA], false, M + 22) := by
    rw [restT_step _ _ _ _ (by omega)]
    have hs : skipL x (M + 8 + 13) = M + 8 + 13 := stop_at t13 (by decide)
    rw [hs, t13]
    simp only
    rw [if_pos trivial]
  rw [read_opens ho, hnm, r1, r2, r3, r4, hen]
  simp only
  rw [hlen]
  exact ⟨_, rfl, rfl, rfl⟩
end
end Go.Proofs.Ytmlaaonmofgidaa
