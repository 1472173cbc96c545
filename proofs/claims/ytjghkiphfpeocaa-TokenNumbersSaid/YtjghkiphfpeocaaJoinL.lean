/- Joined tokens, plain: no two Texts stand side by side, joined again nothing is turned, the text in all is the same. No program in sight. -/
import Derived.Test.YtjghkiphfpeocaaTok
namespace Go.Proofs.Ytjghkiphfpeocaa

def joinStep (out : List Tk) (t : Tk) : List Tk := match out.getLast? with
  | some u => if t.kd = 4 ∧ u.kd = 4 then out.dropLast ++ [{ u with tx := u.tx ++ t.tx }] else out ++ [t]
  | none => [t]
def joinT (l : List Tk) : List Tk := l.foldl joinStep []
def textsT (l : List Tk) : ByteArray := l.foldl (fun o t => if t.kd = 4 then o ++ t.tx else o) ⟨#[]⟩
def sumT (l : List Tk) : Nat := (l.map fun t => t.tx.size).sum
/-- No two Texts side by side. -/
def Settled (l : List Tk) : Prop := ∀ (i : Nat) (t u : Tk), l[i]? = some t → l[i + 1]? = some u → ¬ (t.kd = 4 ∧ u.kd = 4)

theorem joinT_snoc (l : List Tk) (t : Tk) : joinT (l ++ [t]) = joinStep (joinT l) t := by unfold joinT; rw [List.foldl_append]; rfl
theorem joinT_take {l : List Tk} {j : Nat} {t : Tk} (h : l[j]? = some t) : joinT (l.take (j + 1)) = joinStep (joinT (l.take j)) t := by
  rw [List.take_add_one, h, ← joinT_snoc]; rfl
theorem textsT_snoc (l : List Tk) (t : Tk) : textsT (l ++ [t]) = if t.kd = 4 then textsT l ++ t.tx else textsT l := by unfold textsT; rw [List.foldl_append]; rfl
theorem textsT_take {l : List Tk} {j : Nat} {t : Tk} (h : l[j]? = some t) : textsT (l.take (j + 1)) = if t.kd = 4 then textsT (l.take j) ++ t.tx else textsT (l.take j) := by
  rw [List.take_add_one, h, ← textsT_snoc]; rfl
theorem sumT_snoc (l : List Tk) (t : Tk) : sumT (l ++ [t]) = sumT l + t.tx.size := by unfold sumT; simp
theorem sumT_take (l : List Tk) (j : Nat) : sumT (l.take j) ≤ sumT l := by
  have h : sumT l = sumT (l.take j) + sumT (l.drop j) := by
    unfold sumT
    rw [← List.sum_append, ← List.map_append, List.take_append_drop]
  omega
theorem textsT_size (l : List Tk) : (textsT l).size ≤ sumT l := by
  have h : ∀ (l : List Tk) (o : ByteArray), (l.foldl (fun o t => if t.kd = 4 then o ++ t.tx else o) o).size ≤ o.size + sumT l := fun l => by
    induction l with
    | nil => intro o; simp [sumT]
    | cons t l ih =>
      intro o
      rw [List.foldl_cons]
      refine Nat.le_trans (ih _) ?_
      have e : sumT (t :: l) = t.tx.size + sumT l := by unfold sumT; simp
      split
      · rw [ByteArray.size_append]; omega
      · omega
  have := h l ⟨#[]⟩
  have e : (⟨#[]⟩ : ByteArray).size = 0 := rfl
  unfold textsT
  omega

theorem snoc_of {l : List Tk} {u : Tk} (h : l.getLast? = some u) : l = l.dropLast ++ [u] := by
  cases l with
  | nil => cases h
  | cons a l =>
    rw [List.getLast?_eq_some_getLast (by simp)] at h
    rw [← Option.some.inj h]
    exact (List.dropLast_concat_getLast (by simp)).symm
theorem joinStep_texts (out : List Tk) (t : Tk) : textsT (joinStep out t) = if t.kd = 4 then textsT out ++ t.tx else textsT out := by
  unfold joinStep
  cases hl : out.getLast? with
  | none =>
    have : out = [] := List.getLast?_eq_none_iff.1 hl
    subst this
    exact textsT_snoc [] t
  | some u =>
    have ho := snoc_of hl
    simp only
    split
    next h =>
      obtain ⟨h1, h2⟩ := h
      rw [textsT_snoc, if_pos h1]
      conv => rhs; rw [ho, textsT_snoc, if_pos h2]
      rw [if_pos h2, ByteArray.append_assoc]
    next h => exact textsT_snoc _ _
theorem joinStep_sum (out : List Tk) (t : Tk) : sumT (joinStep out t) = sumT out + t.tx.size := by
  unfold joinStep
  cases hl : out.getLast? with
  | none =>
    have : out = [] := List.getLast?_eq_none_iff.1 hl
    subst this
    exact sumT_snoc [] t
  | some u =>
    have ho := snoc_of hl
    simp only
    split
    · rw [sumT_snoc, ByteArray.size_append]
      conv => rhs; rw [ho, sumT_snoc]
      omega
    · exact sumT_snoc _ _
theorem joinStep_len (out : List Tk) (t : Tk) : (joinStep out t).length ≤ out.length + 1 := by
  unfold joinStep
  cases hl : out.getLast? with
  | none => simp
  | some u =>
    simp only
    split
    · rw [List.length_append, List.length_dropLast]; simp
    · simp
theorem settled_snoc {l : List Tk} {t : Tk} (h : Settled l) (ht : ∀ u, l.getLast? = some u → ¬ (u.kd = 4 ∧ t.kd = 4)) : Settled (l ++ [t]) := by
  intro i a b ha hb
  by_cases hi : i + 1 < l.length
  · rw [List.getElem?_append_left (by omega)] at ha
    rw [List.getElem?_append_left hi] at hb
    exact h i a b ha hb
  · have hil : i + 1 < (l ++ [t]).length := (List.getElem?_eq_some_iff.1 hb).1
    rw [List.length_append] at hil
    have hil : i + 1 < l.length + 1 := hil
    have e : i + 1 = l.length := by omega
    rw [e, List.getElem?_append_right (Nat.le_refl _), Nat.sub_self] at hb
    have hb : some t = some b := hb
    rw [List.getElem?_append_left (by omega)] at ha
    have hg : l.getLast? = some a := by rw [List.getLast?_eq_getElem?, ← ha]; congr 1; omega
    have := ht a hg
    rw [Option.some.inj hb] at this
    exact this
theorem joinStep_settled {out : List Tk} (t : Tk) (h : Settled out) : Settled (joinStep out t) := by
  unfold joinStep
  cases hl : out.getLast? with
  | none =>
    intro i a b _ hb
    have : i + 1 < ([t] : List Tk).length := (List.getElem?_eq_some_iff.1 hb).1
    simp at this
  | some u =>
    have ho := snoc_of hl
    simp only
    split
    · rw [ho] at h
      intro i a b ha hb
      by_cases hi : i + 1 < out.dropLast.length
      · rw [List.getElem?_append_left (by omega)] at ha
        rw [List.getElem?_append_left hi] at hb
        exact h i a b (by rw [List.getElem?_append_left (by omega)]; exact ha) (by rw [List.getElem?_append_left hi]; exact hb)
      · have hil : i + 1 < (out.dropLast ++ [{ u with tx := u.tx ++ t.tx }]).length := (List.getElem?_eq_some_iff.1 hb).1
        rw [List.length_append] at hil
        have hil : i + 1 < out.dropLast.length + 1 := hil
        have e : i + 1 = out.dropLast.length := by omega
        rw [e, List.getElem?_append_right (Nat.le_refl _), Nat.sub_self] at hb
        have hb : some { u with tx := u.tx ++ t.tx } = some b := hb
        rw [List.getElem?_append_left (by omega)] at ha
        have := h i a u (by rw [List.getElem?_append_left (by omega)]; exact ha) (by rw [e, List.getElem?_append_right (Nat.le_refl _), Nat.sub_self]; rfl)
        rw [← Option.some.inj hb]
        exact this
    next hn =>
      refine settled_snoc h fun v hv => ?_
      rw [hl] at hv
      rw [← Option.some.inj hv]
      exact fun hh => hn ⟨hh.2, hh.1⟩
theorem joinT_all (l : List Tk) : textsT (joinT l) = textsT l ∧ sumT (joinT l) = sumT l ∧ Settled (joinT l) ∧ (joinT l).length ≤ l.length := by
  have h : ∀ n, textsT (joinT (l.take n)) = textsT (l.take n) ∧ sumT (joinT (l.take n)) = sumT (l.take n) ∧ Settled (joinT (l.take n)) ∧ (joinT (l.take n)).length ≤ (l.take n).length := fun n => by
    induction n with
    | zero =>
      rw [List.take_zero]
      exact ⟨rfl, rfl, fun i a b ha _ => by simp [joinT] at ha, Nat.le_refl _⟩
    | succ n ih =>
      cases hx : l[n]? with
      | none =>
        have e : l.take (n + 1) = l.take n := by rw [List.take_add_one, hx]; simp
        rw [e]; exact ih
      | some t =>
        obtain ⟨h1, h2, h3, h4⟩ := ih
        have e : l.take (n + 1) = l.take n ++ [t] := by rw [List.take_add_one, hx]; rfl
        rw [joinT_take hx, e]
        refine ⟨?_, ?_, joinStep_settled t h3, ?_⟩
        · rw [joinStep_texts, textsT_snoc, h1]
        · rw [joinStep_sum, sumT_snoc, h2]
        · have := joinStep_len (joinT (l.take n)) t
          rw [List.length_append]
          have e2 : ([t] : List Tk).length = 1 := rfl
          omega
  have := h l.length
  rwa [List.take_length] at this
theorem joinT_settled {l : List Tk} (h : Settled l) : joinT l = l := by
  have key : ∀ n, joinT (l.take n) = l.take n := fun n => by
    induction n with
    | zero => rfl
    | succ n ih =>
      cases hx : l[n]? with
      | none =>
        have e : l.take (n + 1) = l.take n := by rw [List.take_add_one, hx]; simp
        rw [e]; exact ih
      | some t =>
        rw [joinT_take hx, ih, List.take_add_one, hx]
        unfold joinStep
        cases hl : (l.take n).getLast? with
        | none =>
          have : l.take n = [] := List.getLast?_eq_none_iff.1 hl
          rw [this]; rfl
        | some u =>
          simp only
          rw [if_neg]
          · rfl
          · have hn : n < l.length := (List.getElem?_eq_some_iff.1 hx).1
            cases n with
            | zero => rw [List.take_zero] at hl; cases hl
            | succ n =>
              rw [List.getLast?_eq_getElem?, List.length_take, Nat.min_eq_left (by omega), show n + 1 - 1 = n from rfl, List.getElem?_take, if_pos (by omega)] at hl
              exact fun hh => h n u t hl hx ⟨hh.2, hh.1⟩
  have := key l.length
  rwa [List.take_length] at this
end Go.Proofs.Ytjghkiphfpeocaa
