/- RefNumbersRead's plain law: a number that is written is read. No program in sight. -/
import Derived.Test.YtpdbbpmkdkjppaaReadL
import Derived.Test.YtpdbbpmkdkjppaaUtfL
namespace Go.Proofs.Ytpdbbpmkdkjppaa
open Go.RowKit

theorem elder_good : ∀ k, k < 32 → goodR (elderT.getD k 0) := by
  have : ∀ k, k < 32 → elderT.getD k 0 < 55296 := by decide
  exact fun k hk => .inl (this k hk)
/-- A number's character is one rune. -/
theorem numberS_rune (n : Nat) : ∃ c, goodR c ∧ S (numberS n) = Utf8.encode (c : Int) := by
  unfold numberS
  split
  · exact ⟨65533, .inr (by omega), rfl⟩
  · rename_i h
    split
    · refine ⟨n, ?_, S_B _⟩
      unfold numberB at h
      simp only [Bool.or_eq_true, Bool.and_eq_true, beq_iff_eq, decide_eq_true_eq, not_or, not_and] at h
      unfold goodR
      omega
    · refine ⟨elderN n, ?_, S_B _⟩
      unfold elderN
      split
      · exact elder_good _ (by omega)
      · exact .inl (by omega)
theorem numL_from (base : Nat) : ∀ (l : List UInt8) (a : Nat), l.foldl (fun n c => n * base + hexV c) a = a * base ^ l.length + numL base l
  | [], a => by simp [numL]
  | c :: l, a => by
    have h1 := numL_from base l (a * base + hexV c)
    have h2 := numL_from base l (0 * base + hexV c)
    unfold numL at *
    simp only [List.foldl_cons, List.length_cons]
    rw [h1, h2, Nat.zero_mul, Nat.zero_add, Nat.add_mul, Nat.pow_succ, Nat.mul_assoc a, Nat.mul_comm base, Nat.add_assoc]
theorem numL_cons (base : Nat) (c : UInt8) (l : List UInt8) : numL base (c :: l) = hexV c * base ^ l.length + numL base l := by
  show l.foldl _ (0 * base + hexV c) = _
  rw [numL_from, Nat.zero_mul, Nat.zero_add]
/-- A digit, written. -/
def digC (y : Nat) : UInt8 := if y < 10 then UInt8.ofNat (48 + y) else UInt8.ofNat (87 + y)
theorem digC_val (y : Nat) (h : y < 16) : hexV (digC y) = y ∧ hexB (digC y) = true := by
  have : ∀ y, y < 16 → hexV (digC y) = y ∧ hexB (digC y) = true := by decide
  exact this y h
/-- So much of a number is written. -/
structure Wrote (base n k : Nat) (t : List UInt8) : Prop where
  sum : n = k * base ^ t.length + numL base t
  digs : ∀ c ∈ t, digB base c = true
theorem Wrote.start (base n : Nat) : Wrote base n n [] := ⟨by simp [numL], fun c h => by cases h⟩
theorem Wrote.step {base n k : Nat} {t : List UInt8} (h : Wrote base n k t) (hb : 0 < base) (h16 : base ≤ 16) : Wrote base n (k / base) (digC (k % base) :: t) := by
  have hy : k % base < base := Nat.mod_lt _ hb
  obtain ⟨hv, hx⟩ := digC_val (k % base) (by omega)
  refine ⟨?_, fun c hc => ?_⟩
  · rw [numL_cons, hv, List.length_cons, Nat.pow_succ, h.sum]
    have hk : k = base * (k / base) + k % base := (Nat.div_add_mod k base).symm
    generalize k / base = q at *
    generalize k % base = r at *
    subst hk
    rw [Nat.add_mul, Nat.mul_comm base q, Nat.mul_assoc q base, Nat.mul_comm base (base ^ t.length), Nat.add_assoc]
  · rcases List.mem_cons.1 hc with rfl | hc
    · unfold digB; rw [hx, hv]; simpa using hy
    · exact h.digs c hc
theorem Wrote.len {base n k : Nat} {t : List UInt8} (h : Wrote base n k t) (hb : 2 ≤ base) (hk : 0 < k) (hn : n ≤ 1114112) : t.length ≤ 20 := by
  have h1 := h.sum
  have h2 : base ^ t.length ≤ k * base ^ t.length := Nat.le_mul_of_pos_left _ hk
  have h3 : 2 ^ t.length ≤ base ^ t.length := Nat.pow_le_pow_left hb _
  rcases Nat.lt_or_ge 20 t.length with h | h
  · have : 2 ^ 21 ≤ 2 ^ t.length := Nat.pow_le_pow_right (by omega) (by omega)
    have e : (2 : Nat) ^ 21 = 2097152 := by decide
    omega
  · exact h
theorem Wrote.done {base n : Nat} {t : List UInt8} (h : Wrote base n 0 t) : numL base t = n := by have := h.sum; omega

theorem take_digits (base : Nat) : ∀ (d r : List UInt8), (∀ c ∈ d, digB base c = true) → (∀ c, r.head? = some c → digB base c = false) → (d ++ r).takeWhile (digB base) = d
  | [], r, _, h => by
    cases r with
    | nil => rfl
    | cons c r => rw [List.nil_append, List.takeWhile_cons, h c rfl]; rfl
  | c :: d, r, hd, h => by
    rw [List.cons_append, List.takeWhile_cons, if_pos (hd c List.mem_cons_self), take_digits base d r (fun x hx => hd x (List.mem_cons_of_mem _ hx)) h]
theorem numS_written (base : Nat) (p d r : List UInt8) (hd : ∀ c ∈ d, digB base c = true) (hne : d ≠ []) (hr : ∀ c, r.head? = some c → digB base c = false) :
    numS p.length base (p ++ d ++ r) = (numberS (numL base d), p.length + d.length + (if r.head? = some 59 then 1 else 0)) := by
  have e1 : (p ++ d ++ r).drop p.length = d ++ r := by rw [List.append_assoc, List.drop_left]
  have e2 : (p ++ d ++ r).drop (p.length + d.length) = r := by rw [← List.drop_drop, e1, List.drop_left]
  unfold numS
  simp only
  rw [e1, take_digits base d r hd hr, if_neg hne, e2]
theorem not_x {c : UInt8} (h : digB 10 c = true) : (120 == lowB c) = false := by
  have h1 := lowB_toNat c
  unfold digB hexB digitB hexV at h
  simp only [Bool.and_eq_true, Bool.or_eq_true, decide_eq_true_eq] at h
  rw [beq_eq_false_iff_ne]
  intro e
  have e2 : (lowB c).toNat = 120 := by rw [← e]; rfl
  rw [h1] at e2
  obtain ⟨h, h'⟩ := h
  split at h' <;> split at e2 <;> omega
theorem written_ten (attr : Bool) (d r : List UInt8) (hd : ∀ c ∈ d, digB 10 c = true) (hne : d ≠ []) (hr : ∀ c, r.head? = some c → digB 10 c = false) :
    readR ([38, 35] ++ d ++ r) 0 attr = (numberS (numL 10 d), ((2 + d.length + (if r.head? = some 59 then 1 else 0) : Nat) : Int)) := by
  have hh : (([38, 35] ++ d ++ r : List UInt8).drop 0).head? = some 38 := rfl
  have := readR_at attr ([38, 35] ++ d ++ r) 0 hh
  rw [show ((0 : Nat) : Int) = 0 from rfl] at this
  rw [this]
  have hs : refS attr (([38, 35] ++ d ++ r : List UInt8).drop 0) = numS 2 10 ([38, 35] ++ d ++ r) := by
    refine refS_ten (k := 0) ?_ ?_
    · cases d with
      | nil => exact absurd rfl hne
      | cons c d =>
        unfold foldL Lib.occAt
        show (38 == lowB 38 && (35 == lowB 35 && (120 == lowB c && _))) = false
        rw [not_x (hd c List.mem_cons_self)]
        simp
    · unfold startsL Lib.occAt
      show (38 == 38 && (35 == 35 && List.isPrefixOf [] _)) = true
      simp
  rw [hs]
  have := numS_written 10 [38, 35] d r hd hne hr
  rw [show ([38, 35] : List UInt8).length = 2 from rfl] at this
  rw [this]
  simp
theorem written_hex (attr : Bool) (x : UInt8) (hx : x = 120 ∨ x = 88) (d r : List UInt8) (hd : ∀ c ∈ d, digB 16 c = true) (hne : d ≠ []) (hr : ∀ c, r.head? = some c → digB 16 c = false) :
    readR ([38, 35, x] ++ d ++ r) 0 attr = (numberS (numL 16 d), ((3 + d.length + (if r.head? = some 59 then 1 else 0) : Nat) : Int)) := by
  have hh : (([38, 35, x] ++ d ++ r : List UInt8).drop 0).head? = some 38 := rfl
  have := readR_at attr ([38, 35, x] ++ d ++ r) 0 hh
  rw [show ((0 : Nat) : Int) = 0 from rfl] at this
  rw [this]
  have hs : refS attr (([38, 35, x] ++ d ++ r : List UInt8).drop 0) = numS 3 16 ([38, 35, x] ++ d ++ r) := by
    refine refS_hex (k := 0) ?_
    unfold foldL Lib.occAt
    show (38 == lowB 38 && (35 == lowB 35 && (120 == lowB x && List.isPrefixOf [] _))) = true
    rcases hx with rfl | rfl <;> rfl
  rw [hs]
  have := numS_written 16 [38, 35, x] d r hd hne hr
  rw [show ([38, 35, x] : List UInt8).length = 3 from rfl] at this
  rw [this]
  simp
end Go.Proofs.Ytpdbbpmkdkjppaa
