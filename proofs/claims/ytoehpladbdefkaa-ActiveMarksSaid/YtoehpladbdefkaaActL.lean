/- The list of active formatting, as plain lists of things, some of which are markers: what Push and Clear do to it, and what stays true. No program in sight. -/
import Derived.Test.YtoehpladbdefkaaOwn
namespace Go.Proofs.Ytoehpladbdefkaa
section
variable {α β : Type}

/-- From the end on, up to a marker: how many there are, and the first one's place. -/
def scanR (mk p : α → Bool) : List α → Nat × Int → Nat × Int
  | [], s => s
  | x :: r, s => if mk x = true then s else scanR mk p r (if p x = true then (s.1 + 1, (r.length : Int)) else s)
def pushG (mk p : α → Bool) (l : List α) (x : α) : List α := (if 3 ≤ (scanR mk p l.reverse (0, -1)).1 then cutL l (scanR mk p l.reverse (0, -1)).2.toNat else l) ++ [x]
def clearR (mk : α → Bool) : List α → List α
  | [] => []
  | x :: r => if mk x = true then r else clearR mk r
def clearG (mk : α → Bool) (l : List α) : List α := (clearR mk l.reverse).reverse
theorem clearG_hit {mk : α → Bool} {l : List α} {x : α} (h : mk x = true) : clearG mk (l ++ [x]) = l := by simp [clearG, clearR, h]
theorem clearG_on {mk : α → Bool} {l : List α} {x : α} (h : mk x = false) : clearG mk (l ++ [x]) = clearG mk l := by simp [clearG, clearR, h]
theorem clearG_nil (mk : α → Bool) : clearG mk ([] : List α) = [] := rfl
theorem scanR_map (f : α → β) (mk p : β → Bool) : ∀ (r : List α) (s : Nat × Int), scanR (fun x => mk (f x)) (fun x => p (f x)) r s = scanR mk p (r.map f) s
  | [], _ => rfl
  | x :: r, s => by
    simp only [scanR, List.map_cons]
    split
    · rfl
    · rw [scanR_map f mk p r, List.length_map]
theorem pushG_map (f : α → β) (mk p : β → Bool) (l : List α) (x : α) : (pushG (fun x => mk (f x)) (fun x => p (f x)) l x).map f = pushG mk p (l.map f) (f x) := by
  unfold pushG
  rw [scanR_map, List.map_reverse]
  split <;> simp [cutL, List.map_take, List.map_drop]

theorem pushG_len (mk p : α → Bool) (l : List α) (x : α) : (pushG mk p l x).length ≤ l.length + 1 := by
  unfold pushG
  split
  · unfold cutL
    simp only [List.length_append, List.length_take, List.length_drop, List.length_singleton]
    omega
  · simp
def tailR (mk : α → Bool) (r : List α) : List α := r.takeWhile (fun x => !mk x)
theorem tailR_cons {mk : α → Bool} {x : α} {r : List α} (h : mk x = false) : tailR mk (x :: r) = x :: tailR mk r := by simp [tailR, h]
theorem tailR_mark {mk : α → Bool} {x : α} {r : List α} (h : mk x = true) : tailR mk (x :: r) = [] := by simp [tailR, h]
theorem tailR_append {mk : α → Bool} {c t : List α} (h : ∀ z ∈ c, mk z = false) : tailR mk (c ++ t) = c ++ tailR mk t := by
  induction c with
  | nil => rfl
  | cons a c ih => rw [List.cons_append, tailR_cons (h a List.mem_cons_self), ih (fun z hz => h z (List.mem_cons_of_mem _ hz)), List.cons_append]
theorem scanR_split (mk p : α → Bool) : ∀ (r : List α) (n : Nat) (f : Int),
    ((tailR mk r).countP p = 0 ∧ scanR mk p r (n, f) = (n, f)) ∨
    ∃ r1 x r2, r = r1 ++ x :: r2 ∧ (∀ y ∈ r1, mk y = false) ∧ mk x = false ∧ p x = true ∧ scanR mk p r (n, f) = (n + (tailR mk r).countP p, (r2.length : Int))
  | [], n, f => .inl ⟨rfl, rfl⟩
  | x :: r, n, f => by
    cases hm : mk x with
    | true => exact .inl ⟨by rw [tailR_mark hm]; rfl, by simp [scanR, hm]⟩
    | false =>
      rw [tailR_cons hm, List.countP_cons]
      cases hp : p x with
      | true =>
        have e : scanR mk p (x :: r) (n, f) = scanR mk p r (n + 1, (r.length : Int)) := by simp [scanR, hm, hp]
        right
        rw [e]
        rcases scanR_split mk p r (n + 1) (r.length : Int) with ⟨h0, h1⟩ | ⟨r1, y, r2, rfl, h1, h2, h3, h4⟩
        · exact ⟨[], x, r, rfl, by simp, hm, hp, by rw [h1, h0]; simp⟩
        · refine ⟨x :: r1, y, r2, rfl, ?_, h2, h3, by rw [h4]; simp; omega⟩
          intro z hz
          rcases List.mem_cons.1 hz with rfl | hz
          · exact hm
          · exact h1 z hz
      | false =>
        have e : scanR mk p (x :: r) (n, f) = scanR mk p r (n, f) := by simp [scanR, hm, hp]
        rw [e]
        rcases scanR_split mk p r n f with ⟨h0, h1⟩ | ⟨r1, y, r2, rfl, h1, h2, h3, h4⟩
        · exact .inl ⟨by rw [h0]; simp, h1⟩
        · right
          refine ⟨x :: r1, y, r2, rfl, ?_, h2, h3, by rw [h4]; simp⟩
          intro z hz
          rcases List.mem_cons.1 hz with rfl | hz
          · exact hm
          · exact h1 z hz
theorem scanR_place {mk p : α → Bool} {l : List α} (h : 3 ≤ (scanR mk p l.reverse (0, -1)).1) : ∃ j : Nat, (scanR mk p l.reverse (0, -1)).2 = (j : Int) ∧ j < l.length := by
  rcases scanR_split mk p l.reverse 0 (-1) with ⟨_, h1⟩ | ⟨r1, y, r2, hr, _, _, _, h4⟩
  · rw [h1] at h; simp at h
  · refine ⟨r2.length, by rw [h4], ?_⟩
    have := congrArg List.length hr
    simp at this
    omega
theorem scanR_le (mk p : α → Bool) (r : List α) : (scanR mk p r (0, -1)).1 ≤ r.length := by
  rcases scanR_split mk p r 0 (-1) with ⟨_, h1⟩ | ⟨_, _, _, _, _, _, _, h4⟩
  · rw [h1]; simp
  · rw [h4]
    have h1 : (tailR mk r).countP p ≤ (tailR mk r).length := List.countP_le_length
    have h2 : (tailR mk r).length ≤ r.length := (List.takeWhile_prefix _).length_le
    simp; omega

/-- No more than three alike, up to a marker. -/
def ThreeR (mk : α → Bool) (sim : α → α → Bool) (r : List α) : Prop := ∀ s y t, r = s ++ y :: t → mk y = false → (tailR mk (y :: t)).countP (fun x => sim x y) ≤ 3
variable {mk : α → Bool} {sim : α → α → Bool}
theorem ThreeR.nil : ThreeR mk sim [] := fun s y t h => by simp at h
theorem ThreeR.suffix {s r : List α} (h : ThreeR mk sim (s ++ r)) : ThreeR mk sim r := fun s' y t e hy => h (s ++ s') y t (by rw [e]; simp) hy
theorem ThreeR.clear {r : List α} (h : ThreeR mk sim r) : ThreeR mk sim (clearR mk r) := by
  induction r with
  | nil => exact h
  | cons x r ih =>
    have h' : ThreeR mk sim r := ThreeR.suffix (s := [x]) h
    unfold clearR
    split
    · exact h'
    · exact ih h'
theorem ThreeR.mark {r : List α} {x : α} (hx : mk x = true) (h : ThreeR mk sim r) : ThreeR mk sim (x :: r) := fun s y t e hy => by
  cases s with
  | nil => simp at e; rw [← e.1, hx] at hy; cases hy
  | cons a s => simp at e; exact h s y t e.2 hy
theorem ThreeR.without {r1 r2 : List α} {x : α} (h1 : ∀ z ∈ r1, mk z = false) (hx : mk x = false) (h : ThreeR mk sim (r1 ++ x :: r2)) : ThreeR mk sim (r1 ++ r2) := by
  intro s y t e hy
  rcases List.append_eq_append_iff.1 e with ⟨c, rfl, hc⟩ | ⟨c, rfl, hc⟩
  · exact h (r1 ++ x :: c) y t (by rw [hc]; simp) hy
  · cases c with
    | nil => exact h (s ++ [x]) y t (by simp at hc ⊢; exact hc.symm) hy
    | cons a c =>
      simp only [List.cons_append, List.cons.injEq] at hc
      obtain ⟨rfl, rfl⟩ := hc
      have hcm : ∀ z ∈ c, mk z = false := fun z hz => h1 z (by simp [hz])
      have := h s y (c ++ x :: r2) (by simp) hy
      rw [tailR_cons hy, tailR_append hcm, tailR_cons hx] at this
      rw [tailR_cons hy, tailR_append hcm]
      simp only [List.countP_cons, List.countP_append] at this ⊢
      omega
/-- A list's last thing of a kind, up to a marker. -/
theorem last_of (p : α → Bool) : ∀ r : List α, 0 < (tailR mk r).countP p → ∃ s y t, r = s ++ y :: t ∧ (∀ z ∈ s, mk z = false) ∧ mk y = false ∧ p y = true ∧ (tailR mk r).countP p = (tailR mk (y :: t)).countP p
  | [], h => by simp [tailR] at h
  | x :: r, h => by
    cases hm : mk x with
    | true => rw [tailR_mark hm] at h; simp at h
    | false =>
      cases hp : p x with
      | true => exact ⟨[], x, r, rfl, by simp, hm, hp, rfl⟩
      | false =>
        rw [tailR_cons hm, List.countP_cons, hp] at h
        obtain ⟨s, y, t, rfl, h1, h2, h3, h4⟩ := last_of p r (by simpa using h)
        refine ⟨x :: s, y, t, rfl, ?_, h2, h3, by rw [tailR_cons hm, List.countP_cons, hp, h4]; simp⟩
        intro z hz
        rcases List.mem_cons.1 hz with rfl | hz
        · exact hm
        · exact h1 z hz
theorem ThreeR.push {l : List α} {x : α} (hr : ∀ a, sim a a = true) (hs : ∀ a b, sim a b = true → sim b a = true) (ht : ∀ a b c, sim a b = true → sim b c = true → sim a c = true)
    (hx : mk x = false) (h : ThreeR mk sim l.reverse) : ThreeR mk sim (pushG mk (fun y => sim y x) l x).reverse := by
  have hle : (tailR mk l.reverse).countP (fun y => sim y x) ≤ 3 := by
    rcases Nat.eq_zero_or_pos ((tailR mk l.reverse).countP (fun y => sim y x)) with h0 | h0
    · omega
    · obtain ⟨s, y, t, e, h1, h2, h3, h4⟩ := last_of (mk := mk) (fun y => sim y x) l.reverse h0
      rw [h4]
      have := h s y t e h2
      have hc : (fun z => sim z x) = (fun z => sim z y) := by
        funext z
        rw [Bool.eq_iff_iff]
        exact ⟨fun hz => ht _ _ _ hz (hs _ _ h3), fun hz => ht _ _ _ hz h3⟩
      rw [hc]
      exact this
  have hput : ∀ r : List α, ThreeR mk sim r → (tailR mk r).countP (fun y => sim y x) ≤ 2 → ThreeR mk sim (x :: r) := fun r h3 hc s y t e hy => by
    cases s with
    | nil =>
      simp at e
      obtain ⟨rfl, rfl⟩ := e
      rw [tailR_cons hx, List.countP_cons, hr]
      simpa using hc
    | cons a s => simp at e; exact h3 s y t e.2 hy
  unfold pushG
  rw [List.reverse_append, List.reverse_singleton, List.singleton_append]
  rcases scanR_split mk (fun y => sim y x) l.reverse 0 (-1) with ⟨h0, h1⟩ | ⟨r1, y, r2, e, h1, h2, h3, h4⟩
  · rw [h1, if_neg (by simp)]
    exact hput _ h (by omega)
  · rw [h4]
    simp only [Nat.zero_add, Int.toNat_natCast]
    split
    · rename_i h3c
      have hl : l = r2.reverse ++ y :: r1.reverse := by
        have := congrArg List.reverse e
        simpa using this
      have hc : (cutL l r2.length).reverse = r1 ++ r2 := by
        rw [hl]
        unfold cutL
        rw [List.take_left' (by simp), show r2.length + 1 = r2.reverse.length + 1 by simp, ← List.drop_drop, List.drop_left]
        simp
      rw [hc]
      rw [e] at h hle
      refine hput _ (h.without h1 h2) ?_
      rw [tailR_append h1, tailR_cons h2] at hle
      rw [tailR_append h1]
      simp only [List.countP_append, List.countP_cons, h3, if_true] at hle ⊢
      omega
    · exact hput _ h (by omega)
end
end Go.Proofs.Ytoehpladbdefkaa
