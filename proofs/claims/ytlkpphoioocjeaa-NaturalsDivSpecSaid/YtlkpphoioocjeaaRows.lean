/-
  No cell of these rows narrows 'for every input' (looked for: loops, veiled, ifaces, maps, wideKeys, modest, calm, conditions, laid).
  DERIVED. THE GIVEN ROWS OF THIS SEAT. 8 by the template 'for every input the law returns true; each argument reads behind the call as it read before'; 0 by the template 'total and deterministic' (their statements: YtlkpphoioocjeaaTotals.lean).
  GIVEN WITH THE SEED: the statements are not yours to turn. If you find one false, say at which input.
  Laid BY PROGRAM, IN A SANDBOX (cutbox-rows.mjs): the forced cells as the released guide's own fill.sh prints them over the translation 477bbfb65120f43d… (all of the seat's roots in one cut). By AI agents, Wed Nov 11 2026. No macro, syntax, notation, axiom, sorry.
-/
import Derived.Test.YtlkpphoioocjeaaChecked
import GoSem.Claim
import GoSem.ClaimJoined
import GoSem.ClaimMapViews
import Derived.JoinedTies
import Derived.KernelRfl
namespace Go.Proofs.Ytlkpphoioocjeaa
/- THE CELL 'sum', in the pinned program and in every row, IS THE sha256 OF THE DUMP (.gsa) THAT YtlkpphoioocjeaaProg.lean LOADS. Nothing in Lean hashes anything: it is a label: what it is worth is what the hold of that sum in a sandbox is worth. -/
noncomputable def Try.pinned : Pinned := { name := "ytlkpphoioocjeaa", sum := "477bbfb65120f43da8a1f9f040b5612e4aa16ad01e1407ec2252726b54ef9aad", checked := Try.checked }
namespace Rows
def none {H : Type} : Left H := { results := [], args := [] }

/-- 'backflushlaw06.NaturalsBasicSpec': WHATEVER THE INPUT: true; the input reads as it did. -/
def naturalsBasicSpecSpec : ChangeSpec := { name := "naturalsBasicSpec", fn := fun _ => fun
  | [d1, d2, d3] => { results := [.lit (.bool true)], args := [d1, d2, d3] }
  | _ => none }
def naturalsBasicSpecRow : OpenClaim := { program := "ytlkpphoioocjeaa", sum := "477bbfb65120f43da8a1f9f040b5612e4aa16ad01e1407ec2252726b54ef9aad", func := "backflush/backflushlaw06.NaturalsBasicSpec", spec := "naturalsBasicSpec", unfollowed := true, recurses := true, apart := false }
def NaturalsBasicSpecSaid : Prop := naturalsBasicSpecRow.holds Try.pinned (OpenSpec.ofChange naturalsBasicSpecSpec)

/-- ITS FALSE NEIGHBOUR: 'it returns false'. Refute it at one input. -/
def naturalsBasicSpecWrong : ChangeSpec := { name := "naturalsBasicSpec", fn := fun _ => fun
  | [d1, d2, d3] => { results := [.lit (.bool false)], args := [d1, d2, d3] }
  | _ => none }
def NaturalsBasicSpecWrongFalsely : Prop := naturalsBasicSpecRow.holds Try.pinned (OpenSpec.ofChange naturalsBasicSpecWrong)

/-- 'backflushlaw06.NaturalsSumSpec': WHATEVER THE INPUT: true; the input reads as it did. -/
def naturalsSumSpecSpec : ChangeSpec := { name := "naturalsSumSpec", fn := fun _ => fun
  | [d1, d2] => { results := [.lit (.bool true)], args := [d1, d2] }
  | _ => none }
def naturalsSumSpecRow : OpenClaim := { program := "ytlkpphoioocjeaa", sum := "477bbfb65120f43da8a1f9f040b5612e4aa16ad01e1407ec2252726b54ef9aad", func := "backflush/backflushlaw06.NaturalsSumSpec", spec := "naturalsSumSpec", unfollowed := true, recurses := true, apart := false }
def NaturalsSumSpecSaid : Prop := naturalsSumSpecRow.holds Try.pinned (OpenSpec.ofChange naturalsSumSpecSpec)

/-- ITS FALSE NEIGHBOUR: 'it returns false'. Refute it at one input. -/
def naturalsSumSpecWrong : ChangeSpec := { name := "naturalsSumSpec", fn := fun _ => fun
  | [d1, d2] => { results := [.lit (.bool false)], args := [d1, d2] }
  | _ => none }
def NaturalsSumSpecWrongFalsely : Prop := naturalsSumSpecRow.holds Try.pinned (OpenSpec.ofChange naturalsSumSpecWrong)

/-- 'backflushlaw06.NaturalsDivSpec': WHATEVER THE INPUT: true; the input reads as it did. -/
def naturalsDivSpecSpec : ChangeSpec := { name := "naturalsDivSpec", fn := fun _ => fun
  | [d1, d2] => { results := [.lit (.bool true)], args := [d1, d2] }
  | _ => none }
def naturalsDivSpecRow : OpenClaim := { program := "ytlkpphoioocjeaa", sum := "477bbfb65120f43da8a1f9f040b5612e4aa16ad01e1407ec2252726b54ef9aad", func := "backflush/backflushlaw06.NaturalsDivSpec", spec := "naturalsDivSpec", unfollowed := true, recurses := true, apart := false }
def NaturalsDivSpecSaid : Prop := naturalsDivSpecRow.holds Try.pinned (OpenSpec.ofChange naturalsDivSpecSpec)

/-- ITS FALSE NEIGHBOUR: 'it returns false'. Refute it at one input. -/
def naturalsDivSpecWrong : ChangeSpec := { name := "naturalsDivSpec", fn := fun _ => fun
  | [d1, d2] => { results := [.lit (.bool false)], args := [d1, d2] }
  | _ => none }
def NaturalsDivSpecWrongFalsely : Prop := naturalsDivSpecRow.holds Try.pinned (OpenSpec.ofChange naturalsDivSpecWrong)

/-- 'backflushlaw06.NaturalsRest': WHATEVER THE INPUT: true; the input reads as it did. -/
def naturalsRestSpec : ChangeSpec := { name := "naturalsRest", fn := fun _ => fun
  | [d1, d2] => { results := [.lit (.bool true)], args := [d1, d2] }
  | _ => none }
def naturalsRestRow : OpenClaim := { program := "ytlkpphoioocjeaa", sum := "477bbfb65120f43da8a1f9f040b5612e4aa16ad01e1407ec2252726b54ef9aad", func := "backflush/backflushlaw06.NaturalsRest", spec := "naturalsRest", unfollowed := true, recurses := true, apart := false }
def NaturalsRestSaid : Prop := naturalsRestRow.holds Try.pinned (OpenSpec.ofChange naturalsRestSpec)

/-- ITS FALSE NEIGHBOUR: 'it returns false'. Refute it at one input. -/
def naturalsRestWrong : ChangeSpec := { name := "naturalsRest", fn := fun _ => fun
  | [d1, d2] => { results := [.lit (.bool false)], args := [d1, d2] }
  | _ => none }
def NaturalsRestWrongFalsely : Prop := naturalsRestRow.holds Try.pinned (OpenSpec.ofChange naturalsRestWrong)

/-- 'backflushlaw06.NaturalsRules': WHATEVER THE INPUT: true; the input reads as it did. -/
def naturalsRulesSpec : ChangeSpec := { name := "naturalsRules", fn := fun _ => fun
  | [d1, d2, d3] => { results := [.lit (.bool true)], args := [d1, d2, d3] }
  | _ => none }
def naturalsRulesRow : OpenClaim := { program := "ytlkpphoioocjeaa", sum := "477bbfb65120f43da8a1f9f040b5612e4aa16ad01e1407ec2252726b54ef9aad", func := "backflush/backflushlaw06.NaturalsRules", spec := "naturalsRules", unfollowed := true, recurses := true, apart := false }
def NaturalsRulesSaid : Prop := naturalsRulesRow.holds Try.pinned (OpenSpec.ofChange naturalsRulesSpec)

/-- ITS FALSE NEIGHBOUR: 'it returns false'. Refute it at one input. -/
def naturalsRulesWrong : ChangeSpec := { name := "naturalsRules", fn := fun _ => fun
  | [d1, d2, d3] => { results := [.lit (.bool false)], args := [d1, d2, d3] }
  | _ => none }
def NaturalsRulesWrongFalsely : Prop := naturalsRulesRow.holds Try.pinned (OpenSpec.ofChange naturalsRulesWrong)

/-- 'backflushlaw06.NaturalsBack': WHATEVER THE INPUT: true; the input reads as it did. -/
def naturalsBackSpec : ChangeSpec := { name := "naturalsBack", fn := fun _ => fun
  | [d1, d2] => { results := [.lit (.bool true)], args := [d1, d2] }
  | _ => none }
def naturalsBackRow : OpenClaim := { program := "ytlkpphoioocjeaa", sum := "477bbfb65120f43da8a1f9f040b5612e4aa16ad01e1407ec2252726b54ef9aad", func := "backflush/backflushlaw06.NaturalsBack", spec := "naturalsBack", unfollowed := true, recurses := true, apart := false }
def NaturalsBackSaid : Prop := naturalsBackRow.holds Try.pinned (OpenSpec.ofChange naturalsBackSpec)

/-- ITS FALSE NEIGHBOUR: 'it returns false'. Refute it at one input. -/
def naturalsBackWrong : ChangeSpec := { name := "naturalsBack", fn := fun _ => fun
  | [d1, d2] => { results := [.lit (.bool false)], args := [d1, d2] }
  | _ => none }
def NaturalsBackWrongFalsely : Prop := naturalsBackRow.holds Try.pinned (OpenSpec.ofChange naturalsBackWrong)

/-- 'backflushlaw06.NaturalsGcd': WHATEVER THE INPUT: true; the input reads as it did. -/
def naturalsGcdSpec : ChangeSpec := { name := "naturalsGcd", fn := fun _ => fun
  | [d1, d2, d3] => { results := [.lit (.bool true)], args := [d1, d2, d3] }
  | _ => none }
def naturalsGcdRow : OpenClaim := { program := "ytlkpphoioocjeaa", sum := "477bbfb65120f43da8a1f9f040b5612e4aa16ad01e1407ec2252726b54ef9aad", func := "backflush/backflushlaw06.NaturalsGcd", spec := "naturalsGcd", unfollowed := true, recurses := true, apart := false }
def NaturalsGcdSaid : Prop := naturalsGcdRow.holds Try.pinned (OpenSpec.ofChange naturalsGcdSpec)

/-- ITS FALSE NEIGHBOUR: 'it returns false'. Refute it at one input. -/
def naturalsGcdWrong : ChangeSpec := { name := "naturalsGcd", fn := fun _ => fun
  | [d1, d2, d3] => { results := [.lit (.bool false)], args := [d1, d2, d3] }
  | _ => none }
def NaturalsGcdWrongFalsely : Prop := naturalsGcdRow.holds Try.pinned (OpenSpec.ofChange naturalsGcdWrong)

/-- 'backflushlaw06.NaturalsInts': WHATEVER THE INPUT: true; the input reads as it did. -/
def naturalsIntsSpec : ChangeSpec := { name := "naturalsInts", fn := fun _ => fun
  | [d1, d2] => { results := [.lit (.bool true)], args := [d1, d2] }
  | _ => none }
def naturalsIntsRow : OpenClaim := { program := "ytlkpphoioocjeaa", sum := "477bbfb65120f43da8a1f9f040b5612e4aa16ad01e1407ec2252726b54ef9aad", func := "backflush/backflushlaw06.NaturalsInts", spec := "naturalsInts", unfollowed := true, recurses := true, apart := false }
def NaturalsIntsSaid : Prop := naturalsIntsRow.holds Try.pinned (OpenSpec.ofChange naturalsIntsSpec)

/-- ITS FALSE NEIGHBOUR: 'it returns false'. Refute it at one input. -/
def naturalsIntsWrong : ChangeSpec := { name := "naturalsInts", fn := fun _ => fun
  | [d1, d2] => { results := [.lit (.bool false)], args := [d1, d2] }
  | _ => none }
def NaturalsIntsWrongFalsely : Prop := naturalsIntsRow.holds Try.pinned (OpenSpec.ofChange naturalsIntsWrong)

/- THE SECOND FORM. 'bulk': how many values and letters a reading holds, each counted each time it is reached (what is shared counts as often as it is met; a slice's spare places count too). A statement '..UptoSaid' is the law's where the arguments, and the package variables that the reading takes, are together of bulk at most 1048576: NARROWER than '..Said'. Prove '..Said' where nothing that the law and all that it calls make is longer than what came in: it says more and counts as full. Else prove '..UptoSaid'. A law counts once. -/
mutual
def uptoBulk {H : Type} : DataW H → Nat
  | .lit (.string bytes) => bytes.length + 1
  | .lit _ => 1
  | .nil => 1
  | .ptr d => uptoBulk d + 1
  | .slice elems spare => uptoBulkAll elems + uptoBulkAll spare + 1
  | .agg parts => uptoBulkAll parts + 1
  | .iface _ d => uptoBulk d + 1
  | .map entries => uptoBulkEntries entries + 1
  | .held _ => 1
def uptoBulkAll {H : Type} : List (DataW H) → Nat
  | [] => 0
  | d :: r => uptoBulk d + uptoBulkAll r
def uptoBulkEntries {H : Type} : List (Lit × DataW H) → Nat
  | [] => 0
  | x :: r => uptoBulkEntry x + uptoBulkEntries r
def uptoBulkEntry {H : Type} : Lit × DataW H → Nat
  | (.string bytes, d) => bytes.length + uptoBulk d + 1
  | (_, d) => uptoBulk d + 1
 end
def uptoSmall : (H : Type) → List (DataW H) → Bool := fun _ ds => decide (uptoBulkAll ds ≤ 1048576)
def OpenSpec.upto (s : _root_.Go.ChangeSpec) : _root_.Go.OpenSpec := { _root_.Go.OpenSpec.ofChange s with cond := some uptoSmall }

/-- 'backflushlaw06.NaturalsBasicSpec', WHERE WHAT IT READS IS OF BULK AT MOST 1048576: true; the input reads as it did. -/
def naturalsBasicSpecUptoRow : OpenClaim := { program := "ytlkpphoioocjeaa", sum := "477bbfb65120f43da8a1f9f040b5612e4aa16ad01e1407ec2252726b54ef9aad", func := "backflush/backflushlaw06.NaturalsBasicSpec", spec := "naturalsBasicSpec", unfollowed := true, recurses := true, apart := false, narrowed := true }
def NaturalsBasicSpecUptoSaid : Prop := naturalsBasicSpecUptoRow.holds Try.pinned (OpenSpec.upto naturalsBasicSpecSpec)

/-- 'backflushlaw06.NaturalsSumSpec', WHERE WHAT IT READS IS OF BULK AT MOST 1048576: true; the input reads as it did. -/
def naturalsSumSpecUptoRow : OpenClaim := { program := "ytlkpphoioocjeaa", sum := "477bbfb65120f43da8a1f9f040b5612e4aa16ad01e1407ec2252726b54ef9aad", func := "backflush/backflushlaw06.NaturalsSumSpec", spec := "naturalsSumSpec", unfollowed := true, recurses := true, apart := false, narrowed := true }
def NaturalsSumSpecUptoSaid : Prop := naturalsSumSpecUptoRow.holds Try.pinned (OpenSpec.upto naturalsSumSpecSpec)

/-- 'backflushlaw06.NaturalsDivSpec', WHERE WHAT IT READS IS OF BULK AT MOST 1048576: true; the input reads as it did. -/
def naturalsDivSpecUptoRow : OpenClaim := { program := "ytlkpphoioocjeaa", sum := "477bbfb65120f43da8a1f9f040b5612e4aa16ad01e1407ec2252726b54ef9aad", func := "backflush/backflushlaw06.NaturalsDivSpec", spec := "naturalsDivSpec", unfollowed := true, recurses := true, apart := false, narrowed := true }
def NaturalsDivSpecUptoSaid : Prop := naturalsDivSpecUptoRow.holds Try.pinned (OpenSpec.upto naturalsDivSpecSpec)

/-- 'backflushlaw06.NaturalsRest', WHERE WHAT IT READS IS OF BULK AT MOST 1048576: true; the input reads as it did. -/
def naturalsRestUptoRow : OpenClaim := { program := "ytlkpphoioocjeaa", sum := "477bbfb65120f43da8a1f9f040b5612e4aa16ad01e1407ec2252726b54ef9aad", func := "backflush/backflushlaw06.NaturalsRest", spec := "naturalsRest", unfollowed := true, recurses := true, apart := false, narrowed := true }
def NaturalsRestUptoSaid : Prop := naturalsRestUptoRow.holds Try.pinned (OpenSpec.upto naturalsRestSpec)

/-- 'backflushlaw06.NaturalsRules', WHERE WHAT IT READS IS OF BULK AT MOST 1048576: true; the input reads as it did. -/
def naturalsRulesUptoRow : OpenClaim := { program := "ytlkpphoioocjeaa", sum := "477bbfb65120f43da8a1f9f040b5612e4aa16ad01e1407ec2252726b54ef9aad", func := "backflush/backflushlaw06.NaturalsRules", spec := "naturalsRules", unfollowed := true, recurses := true, apart := false, narrowed := true }
def NaturalsRulesUptoSaid : Prop := naturalsRulesUptoRow.holds Try.pinned (OpenSpec.upto naturalsRulesSpec)

/-- 'backflushlaw06.NaturalsBack', WHERE WHAT IT READS IS OF BULK AT MOST 1048576: true; the input reads as it did. -/
def naturalsBackUptoRow : OpenClaim := { program := "ytlkpphoioocjeaa", sum := "477bbfb65120f43da8a1f9f040b5612e4aa16ad01e1407ec2252726b54ef9aad", func := "backflush/backflushlaw06.NaturalsBack", spec := "naturalsBack", unfollowed := true, recurses := true, apart := false, narrowed := true }
def NaturalsBackUptoSaid : Prop := naturalsBackUptoRow.holds Try.pinned (OpenSpec.upto naturalsBackSpec)

/-- 'backflushlaw06.NaturalsGcd', WHERE WHAT IT READS IS OF BULK AT MOST 1048576: true; the input reads as it did. -/
def naturalsGcdUptoRow : OpenClaim := { program := "ytlkpphoioocjeaa", sum := "477bbfb65120f43da8a1f9f040b5612e4aa16ad01e1407ec2252726b54ef9aad", func := "backflush/backflushlaw06.NaturalsGcd", spec := "naturalsGcd", unfollowed := true, recurses := true, apart := false, narrowed := true }
def NaturalsGcdUptoSaid : Prop := naturalsGcdUptoRow.holds Try.pinned (OpenSpec.upto naturalsGcdSpec)

/-- 'backflushlaw06.NaturalsInts', WHERE WHAT IT READS IS OF BULK AT MOST 1048576: true; the input reads as it did. -/
def naturalsIntsUptoRow : OpenClaim := { program := "ytlkpphoioocjeaa", sum := "477bbfb65120f43da8a1f9f040b5612e4aa16ad01e1407ec2252726b54ef9aad", func := "backflush/backflushlaw06.NaturalsInts", spec := "naturalsInts", unfollowed := true, recurses := true, apart := false, narrowed := true }
def NaturalsIntsUptoSaid : Prop := naturalsIntsUptoRow.holds Try.pinned (OpenSpec.upto naturalsIntsSpec)

end Rows
end Go.Proofs.Ytlkpphoioocjeaa
