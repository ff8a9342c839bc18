/-
  No cell of these rows narrows 'for every input' (looked for: loops, veiled, ifaces, maps, wideKeys, modest, calm, conditions, laid).
  DERIVED. THE GIVEN ROWS OF THIS SEAT. 7 by the template 'for every input the law returns true; each argument reads behind the call as it read before'; 0 by the template 'total and deterministic' (their statements: YtieapjdabffjcaaTotals.lean).
  GIVEN WITH THE SEED: the statements are not yours to turn. If you find one false, say at which input.
  Laid BY PROGRAM, IN A SANDBOX (cutbox-rows.mjs): the forced cells as the released guide's own fill.sh prints them over the translation 7b62e31a619dc765… (all of the seat's roots in one cut). By AI agents, Wed Nov 11 2026. No macro, syntax, notation, axiom, sorry.
-/
import Derived.Test.YtieapjdabffjcaaChecked
import GoSem.Claim
import GoSem.ClaimJoined
import GoSem.ClaimMapViews
import Derived.JoinedTies
import Derived.KernelRfl
namespace Go.Proofs.Ytieapjdabffjcaa
/- THE CELL 'sum', in the pinned program and in every row, IS THE sha256 OF THE DUMP (.gsa) THAT YtieapjdabffjcaaProg.lean LOADS. Nothing in Lean hashes anything: it is a label: what it is worth is what the hold of that sum in a sandbox is worth. -/
noncomputable def Try.pinned : Pinned := { name := "ytieapjdabffjcaa", sum := "7b62e31a619dc765cfd0580e63f1133545055d331274b64994504c42a9d913da", checked := Try.checked }
namespace Rows
def none {H : Type} : Left H := { results := [], args := [] }

/-- 'backflushlaw07.RatiosNewSpec': WHATEVER THE INPUT: true; the input reads as it did. -/
def ratiosNewSpecSpec : ChangeSpec := { name := "ratiosNewSpec", fn := fun _ => fun
  | [d1, d2, d3, d4] => { results := [.lit (.bool true)], args := [d1, d2, d3, d4] }
  | _ => none }
def ratiosNewSpecRow : OpenClaim := { program := "ytieapjdabffjcaa", sum := "7b62e31a619dc765cfd0580e63f1133545055d331274b64994504c42a9d913da", func := "backflush/backflushlaw07.RatiosNewSpec", spec := "ratiosNewSpec", unfollowed := true, recurses := true, apart := false }
def RatiosNewSpecSaid : Prop := ratiosNewSpecRow.holds Try.pinned (OpenSpec.ofChange ratiosNewSpecSpec)

/-- ITS FALSE NEIGHBOUR: 'it returns false'. Refute it at one input. -/
def ratiosNewSpecWrong : ChangeSpec := { name := "ratiosNewSpec", fn := fun _ => fun
  | [d1, d2, d3, d4] => { results := [.lit (.bool false)], args := [d1, d2, d3, d4] }
  | _ => none }
def RatiosNewSpecWrongFalsely : Prop := ratiosNewSpecRow.holds Try.pinned (OpenSpec.ofChange ratiosNewSpecWrong)

/-- 'backflushlaw07.RatiosArithSpec': WHATEVER THE INPUT: true; the input reads as it did. -/
def ratiosArithSpecSpec : ChangeSpec := { name := "ratiosArithSpec", fn := fun _ => fun
  | [d1, d2] => { results := [.lit (.bool true)], args := [d1, d2] }
  | _ => none }
def ratiosArithSpecRow : OpenClaim := { program := "ytieapjdabffjcaa", sum := "7b62e31a619dc765cfd0580e63f1133545055d331274b64994504c42a9d913da", func := "backflush/backflushlaw07.RatiosArithSpec", spec := "ratiosArithSpec", unfollowed := true, recurses := true, apart := false }
def RatiosArithSpecSaid : Prop := ratiosArithSpecRow.holds Try.pinned (OpenSpec.ofChange ratiosArithSpecSpec)

/-- ITS FALSE NEIGHBOUR: 'it returns false'. Refute it at one input. -/
def ratiosArithSpecWrong : ChangeSpec := { name := "ratiosArithSpec", fn := fun _ => fun
  | [d1, d2] => { results := [.lit (.bool false)], args := [d1, d2] }
  | _ => none }
def RatiosArithSpecWrongFalsely : Prop := ratiosArithSpecRow.holds Try.pinned (OpenSpec.ofChange ratiosArithSpecWrong)

/-- 'backflushlaw07.RatiosField': WHATEVER THE INPUT: true; the input reads as it did. -/
def ratiosFieldSpec : ChangeSpec := { name := "ratiosField", fn := fun _ => fun
  | [d1, d2, d3] => { results := [.lit (.bool true)], args := [d1, d2, d3] }
  | _ => none }
def ratiosFieldRow : OpenClaim := { program := "ytieapjdabffjcaa", sum := "7b62e31a619dc765cfd0580e63f1133545055d331274b64994504c42a9d913da", func := "backflush/backflushlaw07.RatiosField", spec := "ratiosField", unfollowed := true, recurses := true, apart := false }
def RatiosFieldSaid : Prop := ratiosFieldRow.holds Try.pinned (OpenSpec.ofChange ratiosFieldSpec)

/-- ITS FALSE NEIGHBOUR: 'it returns false'. Refute it at one input. -/
def ratiosFieldWrong : ChangeSpec := { name := "ratiosField", fn := fun _ => fun
  | [d1, d2, d3] => { results := [.lit (.bool false)], args := [d1, d2, d3] }
  | _ => none }
def RatiosFieldWrongFalsely : Prop := ratiosFieldRow.holds Try.pinned (OpenSpec.ofChange ratiosFieldWrong)

/-- 'backflushlaw07.RatiosOrder': WHATEVER THE INPUT: true; the input reads as it did. -/
def ratiosOrderSpec : ChangeSpec := { name := "ratiosOrder", fn := fun _ => fun
  | [d1, d2, d3] => { results := [.lit (.bool true)], args := [d1, d2, d3] }
  | _ => none }
def ratiosOrderRow : OpenClaim := { program := "ytieapjdabffjcaa", sum := "7b62e31a619dc765cfd0580e63f1133545055d331274b64994504c42a9d913da", func := "backflush/backflushlaw07.RatiosOrder", spec := "ratiosOrder", unfollowed := true, recurses := true, apart := false }
def RatiosOrderSaid : Prop := ratiosOrderRow.holds Try.pinned (OpenSpec.ofChange ratiosOrderSpec)

/-- ITS FALSE NEIGHBOUR: 'it returns false'. Refute it at one input. -/
def ratiosOrderWrong : ChangeSpec := { name := "ratiosOrder", fn := fun _ => fun
  | [d1, d2, d3] => { results := [.lit (.bool false)], args := [d1, d2, d3] }
  | _ => none }
def RatiosOrderWrongFalsely : Prop := ratiosOrderRow.holds Try.pinned (OpenSpec.ofChange ratiosOrderWrong)

/-- 'backflushlaw07.RatiosInts': WHATEVER THE INPUT: true; the input reads as it did. -/
def ratiosIntsSpec : ChangeSpec := { name := "ratiosInts", fn := fun _ => fun
  | [d1, d2] => { results := [.lit (.bool true)], args := [d1, d2] }
  | _ => none }
def ratiosIntsRow : OpenClaim := { program := "ytieapjdabffjcaa", sum := "7b62e31a619dc765cfd0580e63f1133545055d331274b64994504c42a9d913da", func := "backflush/backflushlaw07.RatiosInts", spec := "ratiosInts", unfollowed := true, recurses := true, apart := false }
def RatiosIntsSaid : Prop := ratiosIntsRow.holds Try.pinned (OpenSpec.ofChange ratiosIntsSpec)

/-- ITS FALSE NEIGHBOUR: 'it returns false'. Refute it at one input. -/
def ratiosIntsWrong : ChangeSpec := { name := "ratiosInts", fn := fun _ => fun
  | [d1, d2] => { results := [.lit (.bool false)], args := [d1, d2] }
  | _ => none }
def RatiosIntsWrongFalsely : Prop := ratiosIntsRow.holds Try.pinned (OpenSpec.ofChange ratiosIntsWrong)

/-- 'backflushlaw07.RatiosRound': WHATEVER THE INPUT: true; the input reads as it did. -/
def ratiosRoundSpec : ChangeSpec := { name := "ratiosRound", fn := fun _ => fun
  | [d] => { results := [.lit (.bool true)], args := [d] }
  | _ => none }
def ratiosRoundRow : OpenClaim := { program := "ytieapjdabffjcaa", sum := "7b62e31a619dc765cfd0580e63f1133545055d331274b64994504c42a9d913da", func := "backflush/backflushlaw07.RatiosRound", spec := "ratiosRound", unfollowed := true, recurses := true, apart := false }
def RatiosRoundSaid : Prop := ratiosRoundRow.holds Try.pinned (OpenSpec.ofChange ratiosRoundSpec)

/-- ITS FALSE NEIGHBOUR: 'it returns false'. Refute it at one input. -/
def ratiosRoundWrong : ChangeSpec := { name := "ratiosRound", fn := fun _ => fun
  | [d] => { results := [.lit (.bool false)], args := [d] }
  | _ => none }
def RatiosRoundWrongFalsely : Prop := ratiosRoundRow.holds Try.pinned (OpenSpec.ofChange ratiosRoundWrong)

/-- 'backflushlaw07.RatiosLowest': WHATEVER THE INPUT: true; the input reads as it did. -/
def ratiosLowestSpec : ChangeSpec := { name := "ratiosLowest", fn := fun _ => fun
  | [d1, d2] => { results := [.lit (.bool true)], args := [d1, d2] }
  | _ => none }
def ratiosLowestRow : OpenClaim := { program := "ytieapjdabffjcaa", sum := "7b62e31a619dc765cfd0580e63f1133545055d331274b64994504c42a9d913da", func := "backflush/backflushlaw07.RatiosLowest", spec := "ratiosLowest", unfollowed := true, recurses := true, apart := false }
def RatiosLowestSaid : Prop := ratiosLowestRow.holds Try.pinned (OpenSpec.ofChange ratiosLowestSpec)

/-- ITS FALSE NEIGHBOUR: 'it returns false'. Refute it at one input. -/
def ratiosLowestWrong : ChangeSpec := { name := "ratiosLowest", fn := fun _ => fun
  | [d1, d2] => { results := [.lit (.bool false)], args := [d1, d2] }
  | _ => none }
def RatiosLowestWrongFalsely : Prop := ratiosLowestRow.holds Try.pinned (OpenSpec.ofChange ratiosLowestWrong)

/- THE SECOND FORM. 'bulk': how many values and letters a reading holds, each counted each time it is reached (what is shared counts as often as it is met; a slice's spare places count too). A statement '..UptoSaid' is the law's where the arguments, and the package variables that the reading takes, are together of bulk at most 1048576: NARROWER than '..Said'. Prove '..Said' where nothing that the law and all that it calls make is longer than what came in: it says more and counts as full. Else prove '..UptoSaid'. A law counts once. -/
mutual
def uptoBulk {H : Type} : DataW H → Nat
  | .lit (.string bytes) => bytes.length + 1
  | .lit _ => 1
  | .nil => 1
  | .ptr d => uptoBulk d + 1
  | .slice elems spare => uptoBulkAll elems + uptoBulkAll spare + 1
  | .agg parts => uptoBulkAll parts + 1
  | .iface _ d => uptoBulk d + 1
  | .map entries => uptoBulkEntries entries + 1
  | .held _ => 1
def uptoBulkAll {H : Type} : List (DataW H) → Nat
  | [] => 0
  | d :: r => uptoBulk d + uptoBulkAll r
def uptoBulkEntries {H : Type} : List (Lit × DataW H) → Nat
  | [] => 0
  | x :: r => uptoBulkEntry x + uptoBulkEntries r
def uptoBulkEntry {H : Type} : Lit × DataW H → Nat
  | (.string bytes, d) => bytes.length + uptoBulk d + 1
  | (_, d) => uptoBulk d + 1
 end
def uptoSmall : (H : Type) → List (DataW H) → Bool := fun _ ds => decide (uptoBulkAll ds ≤ 1048576)
def OpenSpec.upto (s : _root_.Go.ChangeSpec) : _root_.Go.OpenSpec := { _root_.Go.OpenSpec.ofChange s with cond := some uptoSmall }

/-- 'backflushlaw07.RatiosNewSpec', WHERE WHAT IT READS IS OF BULK AT MOST 1048576: true; the input reads as it did. -/
def ratiosNewSpecUptoRow : OpenClaim := { program := "ytieapjdabffjcaa", sum := "7b62e31a619dc765cfd0580e63f1133545055d331274b64994504c42a9d913da", func := "backflush/backflushlaw07.RatiosNewSpec", spec := "ratiosNewSpec", unfollowed := true, recurses := true, apart := false, narrowed := true }
def RatiosNewSpecUptoSaid : Prop := ratiosNewSpecUptoRow.holds Try.pinned (OpenSpec.upto ratiosNewSpecSpec)

/-- 'backflushlaw07.RatiosArithSpec', WHERE WHAT IT READS IS OF BULK AT MOST 1048576: true; the input reads as it did. -/
def ratiosArithSpecUptoRow : OpenClaim := { program := "ytieapjdabffjcaa", sum := "7b62e31a619dc765cfd0580e63f1133545055d331274b64994504c42a9d913da", func := "backflush/backflushlaw07.RatiosArithSpec", spec := "ratiosArithSpec", unfollowed := true, recurses := true, apart := false, narrowed := true }
def RatiosArithSpecUptoSaid : Prop := ratiosArithSpecUptoRow.holds Try.pinned (OpenSpec.upto ratiosArithSpecSpec)

/-- 'backflushlaw07.RatiosField', WHERE WHAT IT READS IS OF BULK AT MOST 1048576: true; the input reads as it did. -/
def ratiosFieldUptoRow : OpenClaim := { program := "ytieapjdabffjcaa", sum := "7b62e31a619dc765cfd0580e63f1133545055d331274b64994504c42a9d913da", func := "backflush/backflushlaw07.RatiosField", spec := "ratiosField", unfollowed := true, recurses := true, apart := false, narrowed := true }
def RatiosFieldUptoSaid : Prop := ratiosFieldUptoRow.holds Try.pinned (OpenSpec.upto ratiosFieldSpec)

/-- 'backflushlaw07.RatiosOrder', WHERE WHAT IT READS IS OF BULK AT MOST 1048576: true; the input reads as it did. -/
def ratiosOrderUptoRow : OpenClaim := { program := "ytieapjdabffjcaa", sum := "7b62e31a619dc765cfd0580e63f1133545055d331274b64994504c42a9d913da", func := "backflush/backflushlaw07.RatiosOrder", spec := "ratiosOrder", unfollowed := true, recurses := true, apart := false, narrowed := true }
def RatiosOrderUptoSaid : Prop := ratiosOrderUptoRow.holds Try.pinned (OpenSpec.upto ratiosOrderSpec)

/-- 'backflushlaw07.RatiosInts', WHERE WHAT IT READS IS OF BULK AT MOST 1048576: true; the input reads as it did. -/
def ratiosIntsUptoRow : OpenClaim := { program := "ytieapjdabffjcaa", sum := "7b62e31a619dc765cfd0580e63f1133545055d331274b64994504c42a9d913da", func := "backflush/backflushlaw07.RatiosInts", spec := "ratiosInts", unfollowed := true, recurses := true, apart := false, narrowed := true }
def RatiosIntsUptoSaid : Prop := ratiosIntsUptoRow.holds Try.pinned (OpenSpec.upto ratiosIntsSpec)

/-- 'backflushlaw07.RatiosRound', WHERE WHAT IT READS IS OF BULK AT MOST 1048576: true; the input reads as it did. -/
def ratiosRoundUptoRow : OpenClaim := { program := "ytieapjdabffjcaa", sum := "7b62e31a619dc765cfd0580e63f1133545055d331274b64994504c42a9d913da", func := "backflush/backflushlaw07.RatiosRound", spec := "ratiosRound", unfollowed := true, recurses := true, apart := false, narrowed := true }
def RatiosRoundUptoSaid : Prop := ratiosRoundUptoRow.holds Try.pinned (OpenSpec.upto ratiosRoundSpec)

/-- 'backflushlaw07.RatiosLowest', WHERE WHAT IT READS IS OF BULK AT MOST 1048576: true; the input reads as it did. -/
def ratiosLowestUptoRow : OpenClaim := { program := "ytieapjdabffjcaa", sum := "7b62e31a619dc765cfd0580e63f1133545055d331274b64994504c42a9d913da", func := "backflush/backflushlaw07.RatiosLowest", spec := "ratiosLowest", unfollowed := true, recurses := true, apart := false, narrowed := true }
def RatiosLowestUptoSaid : Prop := ratiosLowestUptoRow.holds Try.pinned (OpenSpec.upto ratiosLowestSpec)

end Rows
end Go.Proofs.Ytieapjdabffjcaa
