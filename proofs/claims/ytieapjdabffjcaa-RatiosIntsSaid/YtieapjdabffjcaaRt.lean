/-
  Plain ratios: what the functions of package ratios hand back, said on texts.
-/
import Derived.Test.YtieapjdabffjcaaNm2
namespace Go.Proofs.Ytieapjdabffjcaa.Nm

/-- a ratio as the program holds it -/
structure Rt where
  neg : Bool
  n : ByteArray
  d : ByteArray
/-- a number with a sign -/
structure Sg where
  neg : Bool
  n : ByteArray
def isE (s : ByteArray) : Bool := decide (s.size = 0)
/-- 'must': the number, unless there was an error -/
def mustO (p : ByteArray × Int) : Option ByteArray := if p.2 = 0 then some p.1 else none
def plusO (a b : ByteArray) : Option ByteArray := mustO (addF a b)
def timesO (a b : ByteArray) : Option ByteArray := mustO (mulF a b)
def lessB (a b : ByteArray) : Bool := decide ((cmpF a b).1 < 0)
def saddO (a b : Sg) : Option Sg :=
  if a.neg = b.neg then (plusO a.n b.n).map fun s => ⟨a.neg, s⟩
  else if lessB a.n b.n then (mustO (subF b.n a.n)).map fun s => ⟨b.neg, s⟩
  else (mustO (subF a.n b.n)).map fun s => ⟨a.neg, s⟩
def overR (a : Sg) (d g : ByteArray) : Rt := ⟨a.neg && !isE (divF a.n g).1, (divF a.n g).1, (divF d g).1⟩
def overO (a : Sg) (d : ByteArray) : Option Rt := (mustO (gcdF a.n d)).map (overR a d)
def badR (a : Rt) : Bool := decide (chkN [a.n] ≠ 0) || decide (chkN [a.d] ≠ 0) || isE a.d || (a.neg && isE a.n)
def checkR (a : Rt) : Int := if badR a then 70 else if (gcdF a.n a.d).1 = ⟨#[1]⟩ then 0 else 70

end Go.Proofs.Ytieapjdabffjcaa.Nm
