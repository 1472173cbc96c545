/- Trees as plain data: what they are written as, and a bound for how long that is. No program in sight. -/
import Derived.Test.YtojpedgfllgbcaaDoorBase
namespace Go.Proofs.YtojpedgfllgbcaaDoor

structure Lab where
  kind : Int
  ns : Int
  name : ByteArray
  attrs : List At
  text : ByteArray
  deriving DecidableEq
inductive Fo where
  | nil
  | cons (lab : Lab) (kids rest : Fo)
  deriving DecidableEq
def Fo.toL : Fo → List (Lab × Fo)
  | .nil => []
  | .cons l k r => (l, k) :: r.toL
def Fo.ofL : List (Lab × Fo) → Fo
  | [] => .nil
  | x :: t => .cons x.1 x.2 (Fo.ofL t)
theorem Fo.to_of (l : List (Lab × Fo)) : (Fo.ofL l).toL = l := by
  induction l with
  | nil => rfl
  | cons x t ih => simp [Fo.ofL, Fo.toL, ih]
theorem Fo.of_to (f : Fo) : Fo.ofL f.toL = f := by
  induction f with
  | nil => rfl
  | cons l k r _ ih => simp [Fo.ofL, Fo.toL, ih]
def Fo.len (f : Fo) : Nat := f.toL.length
theorem Fo.len_of (l : List (Lab × Fo)) : (Fo.ofL l).len = l.length := by unfold Fo.len; rw [Fo.to_of]

/-! ### what is escaped -/
def ampL : List UInt8 := [38, 97, 109, 112, 59]
def nbspL : List UInt8 := [38, 110, 98, 115, 112, 59]
def quotL : List UInt8 := [38, 113, 117, 111, 116, 59]
def ltL : List UInt8 := [38, 108, 116, 59]
def gtL : List UInt8 := [38, 103, 116, 59]
def escY (attr : Bool) (c : UInt8) : List UInt8 :=
  if c = 38 then ampL else if attr = true ∧ c = 34 then quotL else if attr = false ∧ c = 60 then ltL else if attr = false ∧ c = 62 then gtL else [c]
def escT (attr : Bool) : List UInt8 → List UInt8
  | [] => []
  | [c] => escY attr c
  | c :: d :: t => if c = 194 ∧ d = 160 then nbspL ++ escT attr t else escY attr c ++ escT attr (d :: t)
theorem escY_len (a : Bool) (c : UInt8) : (escY a c).length ≤ 6 := by
  unfold escY
  repeat' split
  all_goals simp [ampL, quotL, ltL, gtL]
theorem escT_len (a : Bool) : ∀ (n : Nat) (l : List UInt8), l.length ≤ n → (escT a l).length ≤ 6 * l.length
  | _, [], _ => by simp [escT]
  | _, [c], _ => by have := escY_len a c; simp [escT]; omega
  | 0, c :: d :: t, h => by simp at h
  | n + 1, c :: d :: t, h => by
    have h1 := escT_len a n t (by simp at h; omega)
    have h2 := escT_len a n (d :: t) (by simp at h ⊢; omega)
    have h3 := escY_len a c
    unfold escT
    split
    · simp only [List.length_append, List.length_cons, nbspL, List.length_nil]; omega
    · simp only [List.length_append, List.length_cons] at h2 ⊢; omega
theorem escT_nbsp (a : Bool) (t : List UInt8) : escT a (194 :: 160 :: t) = nbspL ++ escT a t := by rw [escT, if_pos ⟨rfl, rfl⟩]
theorem escT_cons (a : Bool) (c : UInt8) (t : List UInt8) (h : ¬ (c = 194 ∧ t.head? = some 160)) : escT a (c :: t) = escY a c ++ escT a t := by
  cases t with
  | nil => simp [escT]
  | cons d t => rw [escT, if_neg (by simpa using h)]

/-! ### names -/
def voidN : List ByteArray := [⟨#[97, 114, 101, 97]⟩, ⟨#[98, 97, 115, 101]⟩, ⟨#[98, 114]⟩, ⟨#[99, 111, 108]⟩, ⟨#[101, 109, 98, 101, 100]⟩, ⟨#[104, 114]⟩, ⟨#[105, 109, 103]⟩, ⟨#[105, 110, 112, 117, 116]⟩, ⟨#[108, 105, 110, 107]⟩, ⟨#[109, 101, 116, 97]⟩, ⟨#[115, 111, 117, 114, 99, 101]⟩, ⟨#[119, 98, 114]⟩]
def isNm (s : ByteArray) (l : List ByteArray) : Bool := l.any (fun x => s.toList == x.toList)
def rcN : List ByteArray := [⟨#[116, 101, 120, 116, 97, 114, 101, 97]⟩, ⟨#[116, 105, 116, 108, 101]⟩]
def rawN : List ByteArray := [⟨#[115, 99, 114, 105, 112, 116]⟩, ⟨#[115, 116, 121, 108, 101]⟩, ⟨#[120, 109, 112]⟩]
def noscrN : ByteArray := ⟨#[110, 111, 115, 99, 114, 105, 112, 116]⟩
def plainN : ByteArray := ⟨#[112, 108, 97, 105, 110, 116, 101, 120, 116]⟩
def templN : ByteArray := ⟨#[116, 101, 109, 112, 108, 97, 116, 101]⟩
/-- How what is in an element is read: 2 Rcdata, 3 Rawtext, 4 Plaintext, 1 Data. -/
def rawK (s : ByteArray) (scr : Bool) : Int :=
  if isNm s rcN = true then 2 else if isNm s rawN = true then 3 else if (s.toList == noscrN.toList) = true then (if scr = true then 3 else 1) else if (s.toList == plainN.toList) = true then 4 else 1
/-- An HTML element whose texts are written as they are; an HTML template. -/
def verbL (scr : Bool) (l : Lab) : Bool := (l.kind == 3 && l.ns == 1) && (rawK l.name scr == 3 || rawK l.name scr == 4)
def tmplL (l : Lab) : Bool := (l.kind == 3 && l.ns == 1) && l.name.toList == templN.toList
theorem tmpl_verb {scr : Bool} {l : Lab} (h : tmplL l = true) : verbL scr l = false := by
  unfold tmplL at h
  rw [Bool.and_eq_true] at h
  have hn : l.name = templN := toList_inj h.2
  unfold verbL
  rw [hn]
  cases scr <;> (rw [show rawK templN _ = 1 by decide +kernel]; simp)

/-! ### what a tree is written as -/
def attrL (a : At) : List UInt8 := [32] ++ B a.name ++ [61, 34] ++ escT true (B a.val) ++ [34]
def attrsL (l : List At) : List UInt8 := l.flatMap attrL
def openL (l : Lab) : List UInt8 := [60] ++ B l.name ++ attrsL l.attrs ++ [62]
def shutL (l : Lab) : List UInt8 := [60, 47] ++ B l.name ++ [62]
def commL (s : ByteArray) : List UInt8 := [60, 33, 45, 45] ++ B s ++ [45, 45, 62]
def doctL (s : ByteArray) : List UInt8 := [60, 33, 68, 79, 67, 84, 89, 80, 69, 32] ++ B s ++ [62]
def closed (l : Lab) : Bool := l.ns == 1 && isNm l.name voidN
/-- A node; inner: what its kids are written as. -/
def nodeF (raw : Bool) (l : Lab) (inner : List UInt8) : List UInt8 :=
  if l.kind = 4 then (if raw = true then B l.text else escT false (B l.text))
  else if l.kind = 5 then commL l.text
  else if l.kind = 2 then doctL l.name
  else if l.kind = 6 then inner
  else if l.kind = 3 then openL l ++ (if closed l = true then [] else inner ++ shutL l)
  else []
def outF (scr : Bool) : Fo → Bool → Bool → List UInt8
  | .nil, _, _ => []
  | .cons l k r, raw, tmpl => (if tmpl = true ∧ l.kind ≠ 6 then [] else nodeF raw l (outF scr k (verbL scr l) (tmplL l))) ++ outF scr r raw tmpl
/-- What a node's kids are written as. -/
def innerF (scr : Bool) (l : Lab) (k : Fo) : List UInt8 := outF scr k (verbL scr l) (tmplL l)

/-! ### how long it is -/
def wA (l : List At) : Nat := (l.map (fun a => 10 + a.name.size + 6 * a.val.size)).sum
def wl (l : Lab) : Nat := 40 + 2 * l.name.size + 6 * l.text.size + wA l.attrs
def wF : Fo → Nat
  | .nil => 0
  | .cons l k r => wl l + wF k + wF r
theorem attrsL_len (l : List At) : (attrsL l).length ≤ wA l := by
  induction l with
  | nil => simp [attrsL, wA]
  | cons a l ih =>
    have h := escT_len true _ (B a.val) (Nat.le_refl _)
    have e : attrsL (a :: l) = attrL a ++ attrsL l := rfl
    have e2 : wA (a :: l) = (10 + a.name.size + 6 * a.val.size) + wA l := rfl
    rw [e, e2, List.length_append]
    simp only [attrL, List.length_append, List.length_cons, List.length_nil, ← size_B] at h ⊢
    omega
theorem openL_len (l : Lab) : (openL l).length ≤ 2 + l.name.size + wA l.attrs := by
  have := attrsL_len l.attrs
  simp only [openL, List.length_append, List.length_cons, List.length_nil, ← size_B]
  omega
theorem shutL_len (l : Lab) : (shutL l).length = 3 + l.name.size := by simp only [shutL, List.length_append, List.length_cons, List.length_nil, ← size_B]; omega
theorem nodeF_len (raw : Bool) (l : Lab) (inner : List UInt8) : (nodeF raw l inner).length + 10 ≤ wl l + inner.length := by
  have h1 := openL_len l
  have h2 := shutL_len l
  have h3 := escT_len false _ (B l.text) (Nat.le_refl _)
  rw [← size_B] at h3
  unfold nodeF wl
  repeat' split
  all_goals
    (try simp only [List.length_append, commL, doctL, List.length_cons, List.length_nil, ← size_B])
    omega
theorem outF_len (scr : Bool) (f : Fo) : ∀ raw tmpl, (outF scr f raw tmpl).length ≤ wF f := by
  induction f with
  | nil => intro raw tmpl; simp [outF]
  | cons l k r ihk ihr =>
    intro raw tmpl
    have h1 := ihr raw tmpl
    have h2 := ihk (verbL scr l) (tmplL l)
    have h3 := nodeF_len raw l (outF scr k (verbL scr l) (tmplL l))
    unfold outF wF
    rw [List.length_append]
    split
    · simp only [List.length_nil]; omega
    · omega

/-! ### what is still to be written: nodes, and ends of elements -/
inductive Job where
  | node (raw : Bool) (l : Lab) (k : Fo)
  | fin (s : ByteArray)
def outJ (scr : Bool) : Job → List UInt8
  | .node raw l k => nodeF raw l (innerF scr l k)
  | .fin s => B s
def wJ : Job → Nat
  | .node _ l k => wl l + wF k
  | .fin s => 1 + s.size
def sumJ (js : List Job) : Nat := (js.map wJ).sum
def outJs (scr : Bool) (js : List Job) : List UInt8 := js.flatMap (outJ scr)
/-- Is a kid written. -/
def shown (tmpl : Bool) (x : Lab × Fo) : Bool := !tmpl || x.1.kind == 6
def jobsF (raw tmpl : Bool) (l : List (Lab × Fo)) : List Job := (l.filter (shown tmpl)).map (fun x => .node raw x.1 x.2)
theorem sumJ_cons (j : Job) (js : List Job) : sumJ (j :: js) = wJ j + sumJ js := rfl
theorem sumJ_append (a b : List Job) : sumJ (a ++ b) = sumJ a + sumJ b := by simp [sumJ]
theorem outJs_cons (scr : Bool) (j : Job) (js : List Job) : outJs scr (j :: js) = outJ scr j ++ outJs scr js := rfl
theorem outJs_append (scr : Bool) (a b : List Job) : outJs scr (a ++ b) = outJs scr a ++ outJs scr b := by simp [outJs]
theorem jobsF_cons (raw tmpl : Bool) (x : Lab × Fo) (t : List (Lab × Fo)) : jobsF raw tmpl (x :: t) = (if shown tmpl x = true then [Job.node raw x.1 x.2] else []) ++ jobsF raw tmpl t := by
  unfold jobsF
  rw [List.filter_cons]
  split
  · rw [List.map_cons]; rfl
  · rfl
theorem toL_cons (l : Lab) (k r : Fo) : (Fo.cons l k r).toL = (l, k) :: r.toL := rfl
theorem jobsF_out (scr raw tmpl : Bool) (f : Fo) : outJs scr (jobsF raw tmpl f.toL) = outF scr f raw tmpl := by
  induction f with
  | nil => rfl
  | cons l k r _ ih =>
    unfold outF
    rw [← ih, toL_cons, jobsF_cons, outJs_append]
    congr 1
    by_cases h : shown tmpl (l, k) = true
    · rw [if_pos h, if_neg (by
        unfold shown at h
        simp at h
        rintro ⟨h1, h2⟩
        rw [h1] at h
        simp at h
        exact h2 h)]
      exact List.append_nil _
    · rw [if_neg h, if_pos (by
        unfold shown at h
        simp at h
        exact h)]
      rfl
theorem jobsF_sum (raw tmpl : Bool) (f : Fo) : sumJ (jobsF raw tmpl f.toL) ≤ wF f := by
  induction f with
  | nil => exact Nat.le_refl _
  | cons l k r _ ih =>
    rw [toL_cons, jobsF_cons, sumJ_append]
    unfold wF
    split
    · rw [sumJ_cons]
      simp only [wJ, sumJ, List.map_nil, List.sum_nil] at ih ⊢
      omega
    · simp only [sumJ, List.map_nil, List.sum_nil] at ih ⊢
      omega
theorem sumJ_len (js : List Job) : js.length ≤ sumJ js := by
  induction js with
  | nil => exact Nat.le_refl _
  | cons j js ih =>
    rw [sumJ_cons, List.length_cons]
    have : 1 ≤ wJ j := by cases j <;> simp only [wJ, wl] <;> omega
    omega
end Go.Proofs.YtojpedgfllgbcaaDoor
