/- What an open element and a formatting entry are, as values. No program in sight. -/
import Derived.Test.YtoehpladbdefkaaBase
namespace Go.Proofs.Ytoehpladbdefkaa
/-- An open element whose handle is a number. -/
structure It where
  h : Int
  ns : Int
  name : ByteArray
  a : Option Addr
  n : Nat
  c : Nat
/-- The same, the handle a text. -/
structure Ix where
  h : ByteArray
  ns : Int
  name : ByteArray
  a : Option Addr
  n : Nat
  c : Nat
/-- An entry of the list of active formatting. -/
structure En where
  marker : Bool
  h : Int
  name : ByteArray
  a : Option Addr
  n : Nat
  c : Nat
end Go.Proofs.Ytoehpladbdefkaa
