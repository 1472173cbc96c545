/- Lists of attributes, as plain functions: what stands where, what is added, the unique ones, alike ones. No program in sight. -/
import Derived.Test.YtjghkiphfpeocaaAttr
namespace Go.Proofs.Ytjghkiphfpeocaa

def nameP (s : ByteArray) (x : At) : Bool := x.name.toList == s.toList
/-- The first place of a name, or -1. -/
def findA (l : List At) (s : ByteArray) : Int := match l.findIdx? (nameP s) with
  | some k => (k : Int)
  | none => -1
theorem findA_hit {l : List At} {s : ByteArray} {j : Nat} {x : At} (h : (l.take j).any (nameP s) = false) (hx : l[j]? = some x) (hp : nameP s x = true) : findA l s = (j : Int) := by
  unfold findA
  obtain ⟨hj, hxe⟩ := List.getElem?_eq_some_iff.1 hx
  have : l.findIdx? (nameP s) = some j := by
    rw [List.findIdx?_eq_some_iff_getElem]
    refine ⟨hj, by rw [hxe]; exact hp, fun i hi => ?_⟩
    have hil : i < l.length := by omega
    have := List.any_eq_false.1 h l[i] (by rw [List.mem_take_iff_getElem]; exact ⟨i, by omega, rfl⟩)
    simpa using this
  rw [this]
theorem findA_none {l : List At} {s : ByteArray} (h : l.any (nameP s) = false) : findA l s = -1 := by
  unfold findA
  have : l.findIdx? (nameP s) = none := by
    rw [List.findIdx?_eq_none_iff]
    exact fun x hx => by simpa using List.any_eq_false.1 h x hx
  rw [this]
theorem findA_some {l : List At} {s : ByteArray} (h : l.any (nameP s) = true) : ∃ (k : Nat) (x : At), findA l s = (k : Int) ∧ l[k]? = some x ∧ nameP s x = true ∧ l.find? (nameP s) = some x := by
  unfold findA
  cases hf : l.findIdx? (nameP s) with
  | none =>
    rw [List.findIdx?_eq_none_iff] at hf
    obtain ⟨x, hx, hp⟩ := List.any_eq_true.1 h
    have := hf x hx
    rw [hp] at this; cases this
  | some k =>
    rw [List.findIdx?_eq_some_iff_getElem] at hf
    obtain ⟨hk, hp, hn⟩ := hf
    refine ⟨k, l[k], rfl, List.getElem?_eq_getElem hk, hp, ?_⟩
    rw [List.find?_eq_some_iff_getElem]
    exact ⟨hp, k, hk, rfl, fun j hj => by simpa using hn j hj⟩
theorem findA_neg (l : List At) (s : ByteArray) : decide (findA l s < 0) = !l.any (nameP s) := by
  cases h : l.any (nameP s) with
  | true => obtain ⟨k, x, hk, _⟩ := findA_some h; rw [hk]; exact decide_eq_false (by omega)
  | false => rw [findA_none h]; rfl
theorem any_take {l : List At} {s : ByteArray} {j : Nat} {x : At} (h : (l.take j).any (nameP s) = false) (hx : l[j]? = some x) : (l.take (j + 1)).any (nameP s) = nameP s x := by
  rw [List.take_add_one, hx, List.any_append, h]; simp

def addA (l : List At) (a : At) : List At := if l.any (nameP a.name) = true then l else l ++ [a]
def moreA (l m : List At) : List At := m.foldl addA l
def uniqA (l : List At) : List At := moreA [] l
theorem addA_len (l : List At) (a : At) : (addA l a).length ≤ l.length + 1 := by unfold addA; split <;> simp
theorem moreA_len (l m : List At) : (moreA l m).length ≤ l.length + m.length := by
  induction m generalizing l with
  | nil => exact Nat.le_refl _
  | cons a m ih => have := ih (addA l a); have := addA_len l a; simp only [moreA, List.foldl_cons, List.length_cons] at *; omega
theorem uniqA_len (l : List At) : (uniqA l).length ≤ l.length := by have := moreA_len [] l; simpa [uniqA] using this
theorem moreA_take (l m : List At) {j : Nat} {x : At} (hx : m[j]? = some x) : moreA l (m.take (j + 1)) = addA (moreA l (m.take j)) x := by
  unfold moreA
  rw [List.take_add_one, hx, List.foldl_append]; rfl
def alikeX (b : List At) (x : At) : Bool := match b.find? (nameP x.name) with
  | some y => y.val.toList == x.val.toList
  | none => false
def alikeA (a b : List At) : Bool := (uniqA a).all (alikeX (uniqA b)) && decide ((uniqA a).length = (uniqA b).length)
theorem all_take {l : List At} {p : At → Bool} {j : Nat} {x : At} (h : (l.take j).all p = true) (hx : l[j]? = some x) : (l.take (j + 1)).all p = p x := by
  rw [List.take_add_one, hx, List.all_append, h]; simp
theorem all_cut {l : List At} {p : At → Bool} {j : Nat} (h : (l.take j).all p = false) : l.all p = false := by
  obtain ⟨x, hx, hp⟩ := List.all_eq_false.1 h
  exact List.all_eq_false.2 ⟨x, List.mem_of_mem_take hx, hp⟩
theorem alikeX_none {b : List At} {x : At} (h : b.any (nameP x.name) = false) : alikeX b x = false := by
  unfold alikeX
  rw [List.find?_eq_none.2 (fun y hy => by simpa using List.any_eq_false.1 h y hy)]
theorem alikeX_some {b : List At} {x y : At} (h : b.find? (nameP x.name) = some y) : alikeX b x = (y.val.toList == x.val.toList) := by unfold alikeX; rw [h]

/-! ### alike is alike for all names: an equivalence -/
theorem toList_inj {s t : ByteArray} (h : (s.toList == t.toList) = true) : s = t := by
  rw [beq_iff_eq, Lib.toList_data, Lib.toList_data] at h
  exact ByteArray.ext (Array.toList_inj.1 h)
theorem nameP_iff {s : ByteArray} {x : At} : nameP s x = true ↔ x.name = s := ⟨toList_inj, fun h => by unfold nameP; rw [h]; exact beq_self_eq_true _⟩
def valA (l : List At) (s : ByteArray) : Option ByteArray := (l.find? (nameP s)).map At.val
theorem valA_add (l : List At) (a : At) (s : ByteArray) : valA (addA l a) s = if l.any (nameP s) = true then valA l s else if nameP s a = true then some a.val else none := by
  unfold valA addA
  by_cases h : l.any (nameP a.name) = true
  · rw [if_pos h]
    by_cases h2 : l.any (nameP s) = true
    · rw [if_pos h2]
    · have h3 : ¬ nameP s a = true := fun e => h2 (by rw [← nameP_iff.1 e]; exact h)
      rw [if_neg h2, if_neg h3, List.find?_eq_none.2 (fun y hy => by
        have := List.any_eq_false.1 (by simpa using h2) y hy; simpa using this)]; rfl
  · rw [if_neg h, List.find?_append]
    by_cases h2 : l.any (nameP s) = true
    · rw [if_pos h2]
      obtain ⟨_, x, _, _, _, hf⟩ := findA_some h2
      rw [hf]; rfl
    · rw [if_neg h2, List.find?_eq_none.2 (fun y hy => by
        have := List.any_eq_false.1 (by simpa using h2) y hy; simpa using this)]
      by_cases h3 : nameP s a = true
      · rw [if_pos h3]; simp [h3]
      · rw [if_neg h3]; simp [h3]
theorem valA_isSome (l : List At) (s : ByteArray) : (valA l s).isSome = l.any (nameP s) := by
  unfold valA
  cases h : l.any (nameP s) with
  | true => obtain ⟨_, x, _, _, _, hf⟩ := findA_some h; rw [hf]; rfl
  | false => rw [List.find?_eq_none.2 (fun y hy => by simpa using List.any_eq_false.1 h y hy)]; rfl
theorem valA_more (l m : List At) (s : ByteArray) : valA (moreA l m) s = (valA l s).or (valA m s) := by
  induction m generalizing l with
  | nil => unfold moreA; simp [valA]
  | cons a m ih =>
    have e : moreA l (a :: m) = moreA (addA l a) m := rfl
    rw [e, ih, valA_add]
    have hc : valA (a :: m) s = if nameP s a = true then some a.val else valA m s := by
      unfold valA; rw [List.find?_cons]; cases nameP s a <;> simp
    rw [hc, ← valA_isSome]
    cases valA l s with
    | some v => simp
    | none => cases nameP s a <;> simp
theorem valA_uniq (l : List At) (s : ByteArray) : valA (uniqA l) s = valA l s := by unfold uniqA; rw [valA_more]; simp [valA]
def NoDup (l : List At) : Prop := l.Pairwise (fun x y => x.name ≠ y.name)
theorem addA_nodup {l : List At} (a : At) (h : NoDup l) : NoDup (addA l a) := by
  unfold addA
  split
  · exact h
  · rename_i hn
    unfold NoDup
    rw [List.pairwise_append]
    refine ⟨h, by simp, fun x hx y hy => ?_⟩
    simp at hy
    subst hy
    intro e
    exact hn (List.any_eq_true.2 ⟨x, hx, nameP_iff.2 e⟩)
theorem moreA_nodup {l : List At} (m : List At) (h : NoDup l) : NoDup (moreA l m) := by
  induction m generalizing l with
  | nil => exact h
  | cons a m ih => exact ih (addA_nodup a h)
theorem uniqA_nodup (l : List At) : NoDup (uniqA l) := moreA_nodup l List.Pairwise.nil
theorem valA_mem {l : List At} (h : NoDup l) {x : At} (hx : x ∈ l) : valA l x.name = some x.val := by
  induction l with
  | nil => cases hx
  | cons a l ih =>
    unfold valA
    rw [List.find?_cons]
    rcases List.mem_cons.1 hx with rfl | hx
    · rw [nameP_iff.2 rfl]; rfl
    · have ha := (List.pairwise_cons.1 h).1 x hx
      have : nameP x.name a = false := by
        cases hc : nameP x.name a with
        | true => exact absurd (nameP_iff.1 hc) ha
        | false => rfl
      rw [this]
      exact ih (List.pairwise_cons.1 h).2 hx
theorem mem_of_valA {l : List At} {s v : ByteArray} (h : valA l s = some v) : ⟨s, v⟩ ∈ l := by
  unfold valA at h
  cases hf : l.find? (nameP s) with
  | none => rw [hf] at h; cases h
  | some x =>
    rw [hf] at h
    have hv : x.val = v := by simpa using h
    have hn := nameP_iff.1 (List.find?_some hf)
    have hm := List.mem_of_find?_eq_some hf
    cases x
    simp only at hn hv
    subst hn hv
    exact hm
/-- Lists of no name twice, of one length, one in the other: the other in the one. -/
theorem sub_eq {a b : List At} (ha : NoDup a) (hlen : b.length ≤ a.length) (hs : ∀ x ∈ a, x ∈ b) : ∀ x ∈ b, x ∈ a := by
  have hna : a.Nodup := ha.imp (fun h e => h (by rw [e]))
  induction a generalizing b with
  | nil =>
    intro x hx
    have : b = [] := List.eq_nil_of_length_eq_zero (by simpa using hlen)
    subst this; cases hx
  | cons a0 a ih =>
    have h0 : a0 ∈ b := hs a0 List.mem_cons_self
    obtain ⟨b1, b2, rfl⟩ := List.append_of_mem h0
    have hna' := List.nodup_cons.1 hna
    have hin : ∀ x ∈ a, x ∈ b1 ++ b2 := fun x hx => by
      have := hs x (List.mem_cons_of_mem _ hx)
      simp only [List.mem_append, List.mem_cons] at this ⊢
      rcases this with h | rfl | h
      · exact .inl h
      · exact absurd hx hna'.1
      · exact .inr h
    have := ih (List.pairwise_cons.1 ha).2 (by simp at hlen ⊢; omega) hin hna'.2
    intro x hx
    simp only [List.mem_append, List.mem_cons] at hx
    rcases hx with h | rfl | h
    · exact List.mem_cons_of_mem _ (this x (List.mem_append_left _ h))
    · exact List.mem_cons_self
    · exact List.mem_cons_of_mem _ (this x (List.mem_append_right _ h))
theorem alikeA_iff (a b : List At) : alikeA a b = true ↔ ∀ s, valA a s = valA b s := by
  unfold alikeA
  have hx : ∀ x, alikeX (uniqA b) x = true ↔ valA b x.name = some x.val := fun x => by
    rw [← valA_uniq]
    unfold alikeX valA
    cases (uniqA b).find? (nameP x.name) with
    | none => simp
    | some y => exact ⟨fun h => by rw [Option.map_some, toList_inj h], fun h => by rw [Option.map_some, Option.some.injEq] at h; simp only [h]; exact beq_self_eq_true _⟩
  rw [Bool.and_eq_true, List.all_eq_true, decide_eq_true_eq]
  constructor
  · rintro ⟨h1, h2⟩ s
    have hsub : ∀ x ∈ uniqA a, x ∈ uniqA b := fun x hxm => by
      have := (hx x).1 (h1 x hxm)
      rw [← valA_uniq] at this
      exact mem_of_valA this
    have hsup := sub_eq (uniqA_nodup a) (by omega) hsub
    rw [← valA_uniq a, ← valA_uniq b]
    cases ha : valA (uniqA a) s with
    | some v => exact (valA_mem (uniqA_nodup b) (hsub _ (mem_of_valA ha))).symm
    | none =>
      cases hb : valA (uniqA b) s with
      | none => rfl
      | some v =>
        have := valA_mem (uniqA_nodup a) (hsup _ (mem_of_valA hb))
        rw [ha] at this; cases this
  · intro h
    have hab : ∀ x ∈ uniqA a, x ∈ uniqA b := fun x hxm => by
      have := valA_mem (uniqA_nodup a) hxm
      rw [valA_uniq, h, ← valA_uniq] at this
      exact mem_of_valA this
    have hba : ∀ x ∈ uniqA b, x ∈ uniqA a := fun x hxm => by
      have := valA_mem (uniqA_nodup b) hxm
      rw [valA_uniq, ← h, ← valA_uniq] at this
      exact mem_of_valA this
    refine ⟨fun x hxm => (hx x).2 ?_, ?_⟩
    · rw [← h, ← valA_uniq]; exact valA_mem (uniqA_nodup a) hxm
    · have l1 := (List.nodup_iff_pairwise_ne.2 ((uniqA_nodup a).imp (fun h e => h (by rw [e]))) : (uniqA a).Nodup)
      have l2 := (List.nodup_iff_pairwise_ne.2 ((uniqA_nodup b).imp (fun h e => h (by rw [e]))) : (uniqA b).Nodup)
      have p : (uniqA a).Perm (uniqA b) := (List.perm_ext_iff_of_nodup l1 l2).2 (fun x => ⟨hab x, hba x⟩)
      exact p.length_eq
theorem alike_refl (a : List At) : alikeA a a = true := (alikeA_iff a a).2 (fun _ => rfl)
theorem alike_symm {a b : List At} (h : alikeA a b = true) : alikeA b a = true := (alikeA_iff b a).2 (fun s => ((alikeA_iff a b).1 h s).symm)
theorem alike_trans {a b c : List At} (h : alikeA a b = true) (h2 : alikeA b c = true) : alikeA a c = true := (alikeA_iff a c).2 (fun s => ((alikeA_iff a b).1 h s).trans ((alikeA_iff b c).1 h2 s))
end Go.Proofs.Ytjghkiphfpeocaa
