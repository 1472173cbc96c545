/- Marks (comments, doctypes and the rest), as plain functions of lists of bytes. No program in sight. -/
import Derived.Test.YtjghkiphfpeocaaStr
namespace Go.Proofs.Ytjghkiphfpeocaa

/-- A token without attributes. -/
structure Tm where
  kind : Int
  name : List UInt8
  text : List UInt8
def noTm : Tm := ⟨0, [], []⟩
abbrev Mk := Tm × Int × Bool
/-- The piece of a text between two places. -/
def pieceL (l : List UInt8) (i j : Nat) : List UInt8 := (l.drop i).take (j - i)
theorem pieceL_len (l : List UInt8) (i j : Nat) (h : i ≤ j) (hj : j ≤ l.length) : (pieceL l i j).length = j - i := by
  unfold pieceL
  rw [List.length_take, List.length_drop]
  omega
def endsL (l x : List UInt8) : Bool := x.isSuffixOf l
/-- A comment's end that was begun, taken away. -/
def cutEnd (t : List UInt8) : List UInt8 :=
  if endsL t [45, 45, 33] = true then t.take (t.length - 3) else if endsL t [45, 45] = true then t.take (t.length - 2) else if endsL t [45] = true then t.take (t.length - 1) else t
def endA : List UInt8 := [45, 45, 62]
def endB : List UInt8 := [45, 45, 33, 62]
def commentM (l : List UInt8) (a : Nat) : Mk :=
  if startsL l [62] a = true then (⟨5, [], []⟩, ((a + 1 : Nat) : Int), true)
  else if startsL l [45, 62] a = true then (⟨5, [], []⟩, ((a + 2 : Nat) : Int), true)
  else if findL l endA a < findL l endB a then (⟨5, [], pieceL l a (findL l endA a)⟩, ((findL l endA a + 3 : Nat) : Int), true)
  else if findL l endB a < findL l endA a then (⟨5, [], pieceL l a (findL l endB a)⟩, ((findL l endB a + 4 : Nat) : Int), true)
  else (⟨5, [], cutEnd (l.drop a)⟩, (l.length : Int), true)
def behindL (l : List UInt8) (a : Nat) : Nat := min (findL l [62] a + 1) l.length
def rubbishM (l : List UInt8) (a : Nat) : Mk := (⟨5, [], pieceL l a (findL l [62] a)⟩, (behindL l a : Int), true)
def endD : List UInt8 := [9, 10, 12, 13, 32, 62]
def doctypeM (l : List UInt8) (a : Nat) : Mk :=
  (⟨1, lowL (pieceL l (skipL l a) (untilL l endD (skipL l a))), []⟩, (behindL l (untilL l endD (skipL l a)) : Int), true)
def endC : List UInt8 := [93, 93, 62]
def dataM (l : List UInt8) (a : Nat) : Mk := (if findL l endC a = a then noTm else ⟨4, [], pieceL l a (findL l endC a)⟩, ((min (findL l endC a + 3) l.length : Nat) : Int), true)
def letterB (c : UInt8) : Bool := (decide (97 ≤ c.toNat) && decide (c.toNat ≤ 122)) || (decide (65 ≤ c.toNat) && decide (c.toNat ≤ 90))
def beginA : List UInt8 := [60, 33, 45, 45]
def wordD : List UInt8 := [100, 111, 99, 116, 121, 112, 101]
def beginD : List UInt8 := 60 :: 33 :: wordD
def beginC : List UInt8 := [60, 33, 91, 67, 68, 65, 84, 65, 91]
/-- Is what stands at a place no letter (and not the end)? -/
def noLetterAt (l : List UInt8) (i : Nat) : Bool := match l[i]? with
  | some c => !letterB c
  | none => false
def readM (l : List UInt8) (at_ : Int) (foreign : Bool) : Mk :=
  if at_ < 0 ∨ (l.length : Int) ≤ at_ then (noTm, at_, false)
  else if startsL l beginA at_.toNat = true then commentM l (at_.toNat + 4)
  else if foldL l beginD at_.toNat = true then doctypeM l (at_.toNat + 9)
  else if (foreign && startsL l beginC at_.toNat) = true then dataM l (at_.toNat + 9)
  else if startsL l [60, 33] at_.toNat = true then rubbishM l (at_.toNat + 2)
  else if startsL l [60, 63] at_.toNat = true then rubbishM l (at_.toNat + 1)
  else if startsL l [60, 47, 62] at_.toNat = true then (noTm, ((at_.toNat + 3 : Nat) : Int), true)
  else if (startsL l [60, 47] at_.toNat && noLetterAt l (at_.toNat + 2)) = true then rubbishM l (at_.toNat + 2)
  else (noTm, at_, false)
end Go.Proofs.Ytjghkiphfpeocaa
