/-
  Plain law: the text of a number, as a list of bytes.
-/
import Derived.Test.YtjepjheklnaidaaDoorBase
namespace Go.Proofs.YtjepjheklnaidaaDoor
open Go.RowKit F64

/-- Head, point and fraction, of a number that is neither 0 nor infinite. -/
def headL (e f : Nat) : List UInt8 := (if e = 0 then [48] else [49]) ++ (if f = 0 then [] else 46 :: hexT f)
def expI (e : Nat) : Int := if e = 0 then -1022 else (e : Int) - 1023
/-- The text of a rung. -/
def textAbs (m : Nat) : List UInt8 :=
  if m / 2 ^ 52 = 2047 then [105, 110, 102] else if m = 0 then [48] else headL (m / 2 ^ 52) (m % 2 ^ 52) ++ 112 :: Lib.itoa (expI (m / 2 ^ 52))
/-- The text of a number. -/
def textF (x : Nat) : List UInt8 := if isNaN x = true then [110, 97, 110] else (if sgn x = true then [45] else []) ++ textAbs (rg x)
attribute [irreducible] textF textAbs headL expI
end Go.Proofs.YtjepjheklnaidaaDoor
