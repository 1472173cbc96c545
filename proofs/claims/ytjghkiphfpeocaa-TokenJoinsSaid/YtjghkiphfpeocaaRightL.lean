/- A tag told is told the same with anything behind it; its name and its attributes are in order. No program in sight. -/
import Derived.Test.YtjghkiphfpeocaaTagL
import Derived.Test.YtjghkiphfpeocaaAlike
namespace Go.Proofs.Ytjghkiphfpeocaa
open Go.RowKit

/-! ### the place behind a tag -/
theorem get_of_eq {l : List UInt8} {k : Nat} (h : k < l.length) : ∃ c, l[k]? = some c := ⟨_, List.getElem?_eq_getElem h⟩
theorem value_two {l : List UInt8} {k : Nat} (h : (valueT l k).2.2 = 2) : l[k]? = some 62 ∧ (valueT l k).2.1 = k + 1 := by
  unfold valueT at h ⊢
  cases hc : l[k]? with
  | none => rw [hc] at h; simp at h
  | some c =>
    rw [hc] at h
    simp only at h ⊢
    by_cases h1 : c = 34 ∨ c = 39
    · rw [if_pos h1] at h; unfold quotT at h; split at h <;> simp at h
    · rw [if_neg h1] at h ⊢
      by_cases h2 : c = 62
      · rw [if_pos h2]; exact ⟨by rw [h2], rfl⟩
      · rw [if_neg h2] at h; unfold bareT at h; split at h <;> simp at h
theorem attr_two {l : List UInt8} {k : Nat} (h : (attrT l k).2.2 = 2) : l[(attrT l k).2.1 - 1]? = some 62 := by
  unfold attrT at h ⊢
  split at h
  · simp at h
  · rename_i h1
    rw [if_neg h1]
    unfold attrV at h ⊢
    split at h
    · rename_i h2
      rw [if_pos h2]
      split at h
      · simp at h
      · rename_i h3
        rw [if_neg h3]
        obtain ⟨e1, e2⟩ := value_two (k := skipL l (skipL l (nameEnd l k) + 1)) h
        simp only
        rw [e2, Nat.add_sub_cancel]
        exact e1
    · simp at h
theorem rest_end (l : List UInt8) : ∀ (f k : Nat) (al : List At) (sf : Bool) (al' : List At) (sf' : Bool) (n : Nat), k ≤ l.length → restF f l k al sf = some (al', sf', n) → skipL l k < n ∧ n ≤ l.length ∧ l[n - 1]? = some 62
  | 0, _, _, _, _, _, _, _, h => by unfold restF at h; cases h
  | f + 1, k, al, sf, al', sf', n, hk, h => by
    unfold restF at h
    have hs := skip_bd l k hk
    cases hc : l[skipL l k]? with
    | none => rw [hc] at h; cases h
    | some c =>
      have hlt := lt_of_at hc
      have hat := attr_bd l (skipL l k) hlt
      rw [hc] at h
      simp only at h
      split at h
      · rename_i h1
        obtain ⟨_, _, rfl⟩ : _ ∧ _ ∧ skipL l k + 1 = n := by simpa using h
        exact ⟨by omega, by omega, by rw [Nat.add_sub_cancel, hc, h1]⟩
      · split at h
        · split at h
          · rename_i h3
            obtain ⟨_, _, rfl⟩ : _ ∧ _ ∧ skipL l k + 2 = n := by simpa using h
            have := lt_of_at h3
            exact ⟨by omega, by omega, by rw [show skipL l k + 2 - 1 = skipL l k + 1 by omega, h3]⟩
          · have hi := rest_end l f (skipL l k + 1) al sf al' sf' n (by omega) h
            have hs2 := skip_bd l (skipL l k + 1) (by omega)
            exact ⟨by omega, hi.2⟩
        · split at h
          · cases h
          · split at h
            · rename_i h3
              obtain ⟨_, _, rfl⟩ : _ ∧ _ ∧ (attrT l (skipL l k)).2.1 = n := by simpa using h
              exact ⟨by omega, hat.2.1, attr_two h3⟩
            · have hi := rest_end l f _ _ sf al' sf' n hat.2.1 h
              have hs2 := skip_bd l _ hat.2.1
              exact ⟨by omega, hi.2⟩

/-! ### the same with anything behind it -/
theorem Alike.skip {n : Nat} {a b : List UInt8} (h : Alike n a b) (i : Nat) (hi : i ≤ a.length) (hs : skipL a i < n) : skipL b i = skipL a i := h.stop spaceB i hi hs
theorem Alike.until {n : Nat} {a b : List UInt8} (h : Alike n a b) (set : List UInt8) (i : Nat) (hi : i ≤ a.length) (hs : untilL a set i < n) : untilL b set i = untilL a set i := h.stop _ i hi hs
theorem Alike.one {n : Nat} {a b : List UInt8} (h : Alike n a b) (c : UInt8) (j : Nat) (hj : j < n) : startsL b [c] j = startsL a [c] j := h.occ [c] j (by simp; omega)
theorem value_same {n : Nat} {a b : List UInt8} (h : Alike n a b) (k : Nat) (hk : k ≤ a.length) (h0 : (valueT a k).2.2 ≠ 0) (hp : (valueT a k).2.1 ≤ n) (h1 : (valueT a k).2.2 = 1 → (valueT a k).2.1 < n) : k < n ∧ valueT b k = valueT a k := by
  have hbd := value_bd a k hk
  have hna := h.ha
  have hnb := h.hb
  have hkn : k < n := by
    rcases (show (valueT a k).2.2 = 1 ∨ (valueT a k).2.2 = 2 by omega) with e | e
    · have := h1 e; omega
    · have := (value_two e).2; omega
  refine ⟨hkn, ?_⟩
  unfold valueT at h0 hp h1 ⊢
  rw [← h.at k hkn]
  cases hc : a[k]? with
  | none => rw [hc] at h0; simp at h0
  | some c =>
    rw [hc] at h0 hp h1
    simp only at h0 hp h1 ⊢
    by_cases e1 : c = 34 ∨ c = 39
    · rw [if_pos e1] at h0 hp h1
      rw [if_pos e1, if_pos e1]
      unfold quotT at h0 hp h1 ⊢
      by_cases e2 : findL a [c] (k + 1) = a.length
      · rw [if_pos e2] at h0; simp at h0
      · rw [if_neg e2] at h0 hp h1
        simp only at hp h1
        have := findL_le a [c] (k + 1) (by omega)
        have hh := h.find [c] (k + 1) (by omega) (by omega) (by simpa using hp)
        rw [if_neg e2, hh, if_neg (by have := h1 trivial; omega), h.piece _ _ (by omega)]
    · rw [if_neg e1] at h0 hp h1
      rw [if_neg e1, if_neg e1]
      by_cases e2 : c = 62
      · rw [if_pos e2, if_pos e2]
      · rw [if_neg e2] at h0 hp h1
        rw [if_neg e2, if_neg e2]
        unfold bareT at h0 hp h1 ⊢
        by_cases e3 : untilL a valEnd k = a.length
        · rw [if_pos e3] at h0; simp at h0
        · rw [if_neg e3] at h0 hp h1
          have h1 := h1 rfl
          simp only at h1
          rw [if_neg e3, h.until valEnd k hk h1, if_neg (by omega), h.piece _ _ (by omega)]
theorem attr_same {n : Nat} {a b : List UInt8} (h : Alike n a b) (k : Nat) (hk : k < a.length) (h0 : (attrT a k).2.2 ≠ 0) (hp : (attrT a k).2.1 ≤ n) (h1 : (attrT a k).2.2 = 1 → (attrT a k).2.1 < n) : attrT b k = attrT a k := by
  have hna := h.ha
  have hnb := h.hb
  have hbd := nameEnd_bd a k hk
  unfold attrT at h0 hp h1 ⊢
  by_cases e1 : nameEnd a k = a.length
  · rw [if_pos e1] at h0; simp at h0
  · rw [if_neg e1] at h0 hp h1
    have hs := skip_bd a (nameEnd a k) hbd.2
    have hkey : skipL a (nameEnd a k) < n → nameEnd b k = nameEnd a k ∧ skipL b (nameEnd a k) = skipL a (nameEnd a k) ∧ pieceL b k (nameEnd a k) = pieceL a k (nameEnd a k) ∧ nameEnd a k ≠ b.length := by
      intro hlt
      refine ⟨?_, h.skip _ hbd.2 hlt, h.piece _ _ (by omega), by omega⟩
      unfold nameEnd at hbd hs hlt ⊢
      rw [Nat.min_eq_left (by omega)] at hbd hs hlt ⊢
      rw [Nat.min_eq_left (by omega)]
      exact h.until endsT (k + 1) (by omega) (by omega)
    unfold attrV at h0 hp h1 ⊢
    by_cases e2 : startsL a [61] (skipL a (nameEnd a k)) = true
    · rw [if_pos e2] at h0 hp h1
      have hlt := (starts_lt e2).1
      have hs2 := skip_bd a (skipL a (nameEnd a k) + 1) (by omega)
      by_cases e3 : (valueT a (skipL a (skipL a (nameEnd a k) + 1))).2.2 = 0
      · rw [if_pos e3] at h0; simp at h0
      · rw [if_neg e3] at h0 hp h1
        simp only at h0 hp h1
        obtain ⟨hkn, hv⟩ := value_same h _ hs2.2 h0 hp h1
        obtain ⟨q1, q2, q3, q4⟩ := hkey (by omega)
        rw [q1, if_neg q4, if_neg e1, q2, h.one 61 _ (by omega), if_pos e2, if_pos e2, h.skip _ (by omega) hkn, hv, q3, if_neg e3, if_neg e3]
    · rw [if_neg e2] at h0 hp h1
      have h1 := h1 rfl
      simp only at h1
      obtain ⟨q1, q2, q3, q4⟩ := hkey h1
      rw [q1, if_neg q4, if_neg e1, q2, h.one 61 _ (by omega), if_neg e2, if_neg e2, q3]
theorem rest_same {n : Nat} {a b : List UInt8} (h : Alike n a b) : ∀ (f g k : Nat) (al : List At) (sf : Bool) (al' : List At) (sf' : Bool), k ≤ a.length → b.length < g + k → restF f a k al sf = some (al', sf', n) → restF g b k al sf = some (al', sf', n)
  | 0, _, _, _, _, _, _, _, _, hr => by unfold restF at hr; cases hr
  | f + 1, g, k, al, sf, al', sf', hk, hg, hr => by
    have he := rest_end a (f + 1) k al sf al' sf' n hk hr
    have hnb := h.hb
    have hs := skip_bd a k hk
    obtain ⟨g, rfl⟩ : ∃ m, g = m + 1 := ⟨g - 1, by omega⟩
    unfold restF at hr ⊢
    rw [h.skip k hk he.1, ← h.at (skipL a k) he.1]
    cases hc : a[skipL a k]? with
    | none => rw [hc] at hr; cases hr
    | some c =>
      have hlt := lt_of_at hc
      have hat := attr_bd a (skipL a k) hlt
      rw [hc] at hr
      simp only at hr ⊢
      by_cases e1 : c = 62
      · rw [if_pos e1] at hr ⊢; exact hr
      · rw [if_neg e1] at hr ⊢
        by_cases e2 : c = 47
        · rw [if_pos e2] at hr ⊢
          have hn2 : skipL a k + 1 < n := by
            split at hr
            · obtain ⟨_, _, e⟩ : _ ∧ _ ∧ skipL a k + 2 = n := by simpa using hr
              omega
            · have h2 := rest_end a f _ al sf al' sf' n (by omega) hr
              have h3 := skip_bd a (skipL a k + 1) (by omega)
              omega
          rw [← h.at _ hn2]
          by_cases e3 : a[skipL a k + 1]? = some 62
          · rw [if_pos e3] at hr ⊢; exact hr
          · rw [if_neg e3] at hr ⊢
            exact rest_same h f g _ al sf al' sf' (by omega) (by omega) hr
        · rw [if_neg e2] at hr ⊢
          by_cases e3 : (attrT a (skipL a k)).2.2 = 0
          · rw [if_pos e3] at hr; cases hr
          · rw [if_neg e3] at hr
            by_cases e4 : (attrT a (skipL a k)).2.2 = 2
            · rw [if_pos e4] at hr
              have e5 : (attrT a (skipL a k)).2.1 = n := by
                obtain ⟨_, _, e⟩ : _ ∧ _ ∧ (attrT a (skipL a k)).2.1 = n := by simpa using hr
                exact e
              have e6 := attr_same h (skipL a k) hlt e3 (by omega) (by omega)
              rw [e6, if_neg e3, if_pos e4]; exact hr
            · rw [if_neg e4] at hr
              have h2 := rest_end a f _ _ sf al' sf' n hat.2.1 hr
              have h3 := skip_bd a (attrT a (skipL a k)).2.1 hat.2.1
              have e6 := attr_same h (skipL a k) hlt e3 (by omega) (by omega)
              rw [e6, if_neg e3, if_neg e4]
              exact rest_same h f g _ _ sf al' sf' hat.2.1 (by omega) hr
theorem tag_parts {l : List UInt8} (ht : (readT l 0).2.2 = true) : l[0]? = some 60 ∧ (l[fromT l 0]?).any letterB = true ∧
    ∃ al sf n, restT l (nameL l (fromT l 0)) [] false = some (al, sf, n) ∧ readT l 0 = (if endsAt l 0 = true then ⟨3, lowL (pieceL l (fromT l 0) (nameL l (fromT l 0))), [], false⟩ else ⟨2, lowL (pieceL l (fromT l 0) (nameL l (fromT l 0))), al, sf⟩, (n : Int), true) := by
  unfold readT at ht ⊢
  rw [if_neg (by decide)] at ht ⊢
  rw [show (0 : Int).toNat = 0 from rfl, List.drop_zero] at *
  by_cases h1 : l.head? = some 60
  · rw [if_pos h1] at ht ⊢
    rw [List.head?_eq_getElem?] at h1
    refine ⟨h1, ?_⟩
    unfold tagT at ht ⊢
    by_cases h2 : (l[fromT l 0]?).any letterB = true
    · rw [if_pos h2] at ht ⊢
      refine ⟨h2, ?_⟩
      cases hr : restT l (nameL l (fromT l 0)) [] false with
      | none => rw [hr] at ht; cases ht
      | some r => exact ⟨r.1, r.2.1, r.2.2, rfl, rfl⟩
    · rw [if_neg h2] at ht; cases ht
  · rw [if_neg h1] at ht; cases ht
theorem from_bd (l : List UInt8) : 1 ≤ fromT l 0 ∧ fromT l 0 ≤ 2 := by unfold fromT; split <;> omega
theorem any_at {l : List UInt8} {k : Nat} {p : UInt8 → Bool} (h : (l[k]?).any p = true) : ∃ c, l[k]? = some c ∧ p c = true := by
  cases hc : l[k]? with
  | none => rw [hc] at h; cases h
  | some c => rw [hc] at h; exact ⟨c, rfl, h⟩
def endsN : List UInt8 := [9, 10, 12, 13, 32, 47, 62]
theorem letter_end {c : UInt8} (h : letterB c = true) : hasB endsN c = false := by
  cases hb : hasB endsN c with
  | false => rfl
  | true =>
    rw [hasB_iff] at hb
    unfold letterB at h
    simp only [Bool.or_eq_true, Bool.and_eq_true, decide_eq_true_eq] at h
    simp only [endsN, List.mem_cons, List.not_mem_nil, or_false] at hb
    rcases hb with rfl | rfl | rfl | rfl | rfl | rfl | rfl <;> simp at h
theorem name_gt {l : List UInt8} (h : (l[fromT l 0]?).any letterB = true) : fromT l 0 + 1 ≤ nameL l (fromT l 0) := by
  obtain ⟨c, hc, hp⟩ := any_at h
  obtain ⟨hlt, e⟩ := List.getElem?_eq_some_iff.1 hc
  unfold nameL untilL
  rw [← stopL_step _ l _ hlt (by rw [e]; show (!hasB endsN c) = true; rw [letter_end hp]; rfl)]
  exact stopL_ge _ _ _
theorem tag_same {n : Nat} {a b : List UInt8} (h : Alike n a b) (ht : (readT a 0).2.2 = true) (hn : (readT a 0).2.1 = (n : Int)) : readT b 0 = readT a 0 := by
  obtain ⟨h1, h2, al, sf, m, h3, h4⟩ := tag_parts ht
  rw [h4] at hn
  obtain rfl : m = n := Int.ofNat.inj hn
  have hf := from_bd a
  have hg := name_gt h2
  have hle : fromT a 0 ≤ a.length := by obtain ⟨c, hc, _⟩ := any_at h2; have := lt_of_at hc; omega
  have hnl : nameL a (fromT a 0) ≤ a.length := stopL_le _ _ _ hle
  have he := rest_end a _ _ [] false al sf m hnl h3
  have hs := skip_bd a (nameL a (fromT a 0)) hnl
  have e1 : endsAt b 0 = endsAt a 0 := h.occ [60, 47] 0 (by simp; omega)
  have e2 : fromT b 0 = fromT a 0 := by unfold fromT; rw [e1]
  have e3 : nameL b (fromT a 0) = nameL a (fromT a 0) := h.stop _ _ hle (by show nameL a (fromT a 0) < m; omega)
  have e4 : restT b (nameL a (fromT a 0)) [] false = some (al, sf, m) := rest_same h _ _ _ [] false al sf hnl (by have := h.hb; omega) h3
  rw [h4]
  unfold readT
  rw [if_neg (by decide), show (0 : Int).toNat = 0 from rfl, List.drop_zero, List.head?_eq_getElem?, ← h.at 0 (by omega), h1, if_pos rfl]
  unfold tagT
  rw [e1, e2, ← h.at _ (by omega), if_pos h2, e3, e4, h.piece _ _ (by omega)]
theorem tag_end {n : Nat} {a : List UInt8} (ht : (readT a 0).2.2 = true) (hn : (readT a 0).2.1 = (n : Int)) : 2 < n ∧ n ≤ a.length ∧ a[n - 1]? = some 62 := by
  obtain ⟨h1, h2, al, sf, m, h3, h4⟩ := tag_parts ht
  rw [h4] at hn
  obtain rfl : m = n := Int.ofNat.inj hn
  have hf := from_bd a
  have hg := name_gt h2
  have hle : fromT a 0 ≤ a.length := by obtain ⟨c, hc, _⟩ := any_at h2; have := lt_of_at hc; omega
  have hnl : nameL a (fromT a 0) ≤ a.length := stopL_le _ _ _ hle
  have he := rest_end a _ _ [] false al sf m hnl h3
  have hs := skip_bd a (nameL a (fromT a 0)) hnl
  exact ⟨by omega, he.2⟩
theorem tag_ends {a : List UInt8} (ht : (readT a 0).2.2 = true) : ∃ n : Nat, (readT a 0).2.1 = (n : Int) := by
  obtain ⟨_, _, al, sf, m, _, h4⟩ := tag_parts ht
  exact ⟨m, by rw [h4]⟩

/-! ### the name and the attributes are in order -/
def okB (c : UInt8) : Prop := lowB c = c ∧ spaceB c = false ∧ c ≠ 47 ∧ c ≠ 62
def NameOk (l : List UInt8) : Prop := (l[0]?).any letterB = true ∧ ∀ c ∈ l, okB c
theorem low_ok {c : UInt8} (h : hasB endsN c = false) : okB (lowB c) := by
  have hn : ∀ x ∈ endsN, c ≠ x := fun x hx e => by
    rw [e] at h
    rw [(hasB_iff endsN x).2 hx] at h; cases h
  have h1 := lowB_toNat c
  have h2 := lowB_toNat (lowB c)
  have hx : ∀ x : UInt8, x ∈ endsN → c.toNat ≠ x.toNat := fun x hx e => hn x hx (UInt8.toNat_inj.1 e)
  have n9 := hx 9 (by decide)
  have n10 := hx 10 (by decide)
  have n12 := hx 12 (by decide)
  have n13 := hx 13 (by decide)
  have n32 := hx 32 (by decide)
  have n47 := hx 47 (by decide)
  have n62 := hx 62 (by decide)
  have g : ∀ x : UInt8, (lowB c).toNat ≠ x.toNat → lowB c ≠ x := fun x hh e => hh (by rw [e])
  have v9 : (9 : UInt8).toNat = 9 := rfl
  have v10 : (10 : UInt8).toNat = 10 := rfl
  have v12 : (12 : UInt8).toNat = 12 := rfl
  have v13 : (13 : UInt8).toNat = 13 := rfl
  have v32 : (32 : UInt8).toNat = 32 := rfl
  have v47 : (47 : UInt8).toNat = 47 := rfl
  have v62 : (62 : UInt8).toNat = 62 := rfl
  rw [v9] at n9; rw [v10] at n10; rw [v12] at n12; rw [v13] at n13; rw [v32] at n32; rw [v47] at n47; rw [v62] at n62
  have k : (lowB c).toNat ≠ 9 ∧ (lowB c).toNat ≠ 10 ∧ (lowB c).toNat ≠ 12 ∧ (lowB c).toNat ≠ 13 ∧ (lowB c).toNat ≠ 32 ∧ (lowB c).toNat ≠ 47 ∧ (lowB c).toNat ≠ 62 := by
    split at h1 <;> omega
  refine ⟨UInt8.toNat_inj.1 (by split at h2 <;> split at h1 <;> omega), ?_, g 47 (by rw [v47]; omega), g 62 (by rw [v62]; omega)⟩
  unfold spaceB
  simp only [Bool.or_eq_false_iff, beq_eq_false_iff_ne]
  exact ⟨⟨⟨⟨g 9 (by rw [v9]; omega), g 10 (by rw [v10]; omega)⟩, g 12 (by rw [v12]; omega)⟩, g 13 (by rw [v13]; omega)⟩, g 32 (by rw [v32]; omega)⟩
theorem letter_low {c : UInt8} (h : letterB c = true) : letterB (lowB c) = true := by
  have h1 := lowB_toNat c
  unfold letterB at h ⊢
  simp only [Bool.or_eq_true, Bool.and_eq_true, decide_eq_true_eq] at h ⊢
  split at h1 <;> omega
theorem piece_name (l : List UInt8) (i : Nat) (hi : i ≤ l.length) : ∀ c ∈ pieceL l i (nameL l i), hasB endsN c = false := by
  intro c hc
  obtain ⟨j, hj⟩ := List.mem_iff_getElem?.1 hc
  unfold pieceL at hj
  rw [List.getElem?_take] at hj
  split at hj
  · rename_i hlt
    rw [List.getElem?_drop] at hj
    obtain ⟨hl, e⟩ := List.getElem?_eq_some_iff.1 hj
    have hm := stopL_mem (fun c => !hasB endsN c) l i (i + j) hi (by omega) (by show i + j < nameL l i; omega) hl
    rw [e] at hm
    simpa using hm
  · cases hj
theorem tag_name {a : List UInt8} (ht : (readT a 0).2.2 = true) : NameOk (readT a 0).1.name := by
  obtain ⟨_, h2, al, sf, m, _, h4⟩ := tag_parts ht
  have hg := name_gt h2
  obtain ⟨c0, hc0, hp0⟩ := any_at h2
  have hlt := lt_of_at hc0
  have e : (readT a 0).1.name = lowL (pieceL a (fromT a 0) (nameL a (fromT a 0))) := by rw [h4]; simp only; split <;> rfl
  rw [e]
  refine ⟨?_, fun c hc => ?_⟩
  · unfold lowL
    rw [List.getElem?_map]
    have : (pieceL a (fromT a 0) (nameL a (fromT a 0)))[0]? = some c0 := by
      unfold pieceL
      rw [List.getElem?_take, if_pos (by omega), List.getElem?_drop, Nat.add_zero, hc0]
    rw [this]
    exact letter_low hp0
  · obtain ⟨x, hx, rfl⟩ := List.mem_map.1 hc
    exact low_ok (piece_name a _ (by omega) x hx)
def Listed (al : List At) : Prop := NoDup al ∧ ∀ x ∈ al, x.name.size ≠ 0
theorem attr_named (l : List UInt8) (k : Nat) (hk : k < l.length) (h0 : (attrT l k).2.2 ≠ 0) : (attrT l k).1.name.size ≠ 0 := by
  have hbd := nameEnd_bd l k hk
  have hz : (S (lowL (pieceL l k (nameEnd l k)))).size ≠ 0 := by
    rw [size_S, lowL_length, pieceL_len _ _ _ (by omega) hbd.2]; omega
  unfold attrT at h0 ⊢
  split at h0
  · simp at h0
  · rename_i h1
    rw [if_neg h1]
    unfold attrV at h0 ⊢
    split at h0
    · rename_i h2
      rw [if_pos h2]
      split at h0
      · simp at h0
      · rename_i h3
        rw [if_neg h3]; exact hz
    · rename_i h2
      rw [if_neg h2]; exact hz
theorem add_listed {al : List At} {x : At} (h : Listed al) (hx : x.name.size ≠ 0) : Listed (addA al x) := by
  refine ⟨addA_nodup x h.1, fun y hy => ?_⟩
  unfold addA at hy
  split at hy
  · exact h.2 y hy
  · rcases List.mem_append.1 hy with hy | hy
    · exact h.2 y hy
    · rw [List.mem_singleton.1 hy]; exact hx
theorem rest_listed (l : List UInt8) : ∀ (f k : Nat) (al : List At) (sf : Bool) (al' : List At) (sf' : Bool) (n : Nat), k ≤ l.length → Listed al → restF f l k al sf = some (al', sf', n) → Listed al'
  | 0, _, _, _, _, _, _, _, _, h => by unfold restF at h; cases h
  | f + 1, k, al, sf, al', sf', n, hk, hl, h => by
    unfold restF at h
    have hs := skip_bd l k hk
    cases hc : l[skipL l k]? with
    | none => rw [hc] at h; cases h
    | some c =>
      have hlt := lt_of_at hc
      have hat := attr_bd l (skipL l k) hlt
      rw [hc] at h
      simp only at h
      split at h
      · obtain ⟨rfl, _, _⟩ : al = al' ∧ _ ∧ _ := by simpa using h
        exact hl
      · split at h
        · split at h
          · obtain ⟨rfl, _, _⟩ : al = al' ∧ _ ∧ _ := by simpa using h
            exact hl
          · exact rest_listed l f _ al sf al' sf' n (by omega) hl h
        · split at h
          · cases h
          · rename_i h0
            have hl2 := add_listed hl (attr_named l _ hlt h0)
            split at h
            · obtain ⟨rfl, _, _⟩ : _ = al' ∧ _ ∧ _ := by simpa using h
              exact hl2
            · exact rest_listed l f _ _ sf al' sf' n hat.2.1 hl2 h
theorem listed_nil : Listed [] := ⟨List.Pairwise.nil, fun x hx => by cases hx⟩
theorem tag_listed {a : List UInt8} (ht : (readT a 0).2.2 = true) : Listed (readT a 0).1.attrs ∧ (((readT a 0).1.kind = 2) ∨ ((readT a 0).1.kind = 3 ∧ (readT a 0).1.attrs = [] ∧ (readT a 0).1.self = false)) := by
  obtain ⟨_, h2, al, sf, m, h3, h4⟩ := tag_parts ht
  obtain ⟨c0, hc0, hp0⟩ := any_at h2
  have hlt := lt_of_at hc0
  rw [h4]
  simp only
  split
  · exact ⟨listed_nil, .inr ⟨rfl, rfl, rfl⟩⟩
  · exact ⟨rest_listed a _ _ [] false al sf m (stopL_le _ _ _ (by omega)) listed_nil h3, .inl rfl⟩
/-- No double: the unique ones are all. -/
theorem more_all : ∀ (m l : List At), NoDup (l ++ m) → moreA l m = l ++ m
  | [], l, _ => by simp [moreA]
  | x :: m, l, h => by
    have hx : l.any (nameP x.name) = false := by
      rw [List.any_eq_false]
      intro y hy e
      exact (List.pairwise_append.1 h).2.2 y hy x (by simp) (nameP_iff.1 e)
    have e : addA l x = l ++ [x] := by unfold addA; rw [hx]; rfl
    show moreA (addA l x) m = _
    rw [e, more_all m (l ++ [x]) (by simpa using h)]
    simp
theorem uniq_all {l : List At} (h : NoDup l) : uniqA l = l := more_all l [] h
theorem no_empty {l : List At} (h : Listed l) : l.any (nameP ⟨#[]⟩) = false := by
  rw [List.any_eq_false]
  intro x hx e
  exact h.2 x hx (by rw [nameP_iff.1 e]; rfl)
end Go.Proofs.Ytjghkiphfpeocaa
