/-
  No cell of these rows narrows 'for every input' (looked for: loops, veiled, ifaces, maps, wideKeys, modest, calm, conditions, laid).
  DERIVED. THE GIVEN ROWS OF THIS SEAT. 9 by the template 'for every input the law returns true; each argument reads behind the call as it read before'; 0 by the template 'total and deterministic' (their statements: YtmcejefeloljiaaTotals.lean).
  GIVEN WITH THE SEED: the statements are not yours to turn. If you find one false, say at which input.
  Laid BY PROGRAM, IN A SANDBOX (cutbox-rows.mjs): the forced cells as the released guide's own fill.sh prints them over the translation b494bc5d8cd23707… (all of the seat's roots in one cut). By AI agents, Wed Nov 11 2026. No macro, syntax, notation, axiom, sorry.
-/
import Derived.Test.YtmcejefeloljiaaChecked
import GoSem.Claim
import GoSem.ClaimJoined
import GoSem.ClaimMapViews
import Derived.JoinedTies
import Derived.KernelRfl
namespace Go.Proofs.Ytmcejefeloljiaa
/- THE CELL 'sum', in the pinned program and in every row, IS THE sha256 OF THE DUMP (.gsa) THAT YtmcejefeloljiaaProg.lean LOADS. Nothing in Lean hashes anything: it is a label: what it is worth is what the hold of that sum in a sandbox is worth. -/
noncomputable def Try.pinned : Pinned := { name := "ytmcejefeloljiaa", sum := "b494bc5d8cd23707ece5d9f27b7c01eee405d4164ee365444aae082e4123e062", checked := Try.checked }
namespace Rows
def none {H : Type} : Left H := { results := [], args := [] }

/-- 'backflushlaw07.RatiosNewSpec': WHATEVER THE INPUT: true; the input reads as it did. -/
def ratiosNewSpecSpec : ChangeSpec := { name := "ratiosNewSpec", fn := fun _ => fun
  | [d1, d2, d3, d4] => { results := [.lit (.bool true)], args := [d1, d2, d3, d4] }
  | _ => none }
def ratiosNewSpecRow : OpenClaim := { program := "ytmcejefeloljiaa", sum := "b494bc5d8cd23707ece5d9f27b7c01eee405d4164ee365444aae082e4123e062", func := "backflush/backflushlaw07.RatiosNewSpec", spec := "ratiosNewSpec", unfollowed := true, recurses := true, apart := false }
def RatiosNewSpecSaid : Prop := ratiosNewSpecRow.holds Try.pinned (OpenSpec.ofChange ratiosNewSpecSpec)

/-- ITS FALSE NEIGHBOUR: 'it returns false'. Refute it at one input. -/
def ratiosNewSpecWrong : ChangeSpec := { name := "ratiosNewSpec", fn := fun _ => fun
  | [d1, d2, d3, d4] => { results := [.lit (.bool false)], args := [d1, d2, d3, d4] }
  | _ => none }
def RatiosNewSpecWrongFalsely : Prop := ratiosNewSpecRow.holds Try.pinned (OpenSpec.ofChange ratiosNewSpecWrong)

/-- 'backflushlaw07.RatiosArithSpec': WHATEVER THE INPUT: true; the input reads as it did. -/
def ratiosArithSpecSpec : ChangeSpec := { name := "ratiosArithSpec", fn := fun _ => fun
  | [d1, d2] => { results := [.lit (.bool true)], args := [d1, d2] }
  | _ => none }
def ratiosArithSpecRow : OpenClaim := { program := "ytmcejefeloljiaa", sum := "b494bc5d8cd23707ece5d9f27b7c01eee405d4164ee365444aae082e4123e062", func := "backflush/backflushlaw07.RatiosArithSpec", spec := "ratiosArithSpec", unfollowed := true, recurses := true, apart := false }
def RatiosArithSpecSaid : Prop := ratiosArithSpecRow.holds Try.pinned (OpenSpec.ofChange ratiosArithSpecSpec)

/-- ITS FALSE NEIGHBOUR: 'it returns false'. Refute it at one input. -/
def ratiosArithSpecWrong : ChangeSpec := { name := "ratiosArithSpec", fn := fun _ => fun
  | [d1, d2] => { results := [.lit (.bool false)], args := [d1, d2] }
  | _ => none }
def RatiosArithSpecWrongFalsely : Prop := ratiosArithSpecRow.holds Try.pinned (OpenSpec.ofChange ratiosArithSpecWrong)

/-- 'backflushlaw09.UnitsResolved': WHATEVER THE INPUT: true; the input reads as it did. -/
def unitsResolvedSpec : ChangeSpec := { name := "unitsResolved", fn := fun _ => fun
  | [d] => { results := [.lit (.bool true)], args := [d] }
  | _ => none }
def unitsResolvedRow : OpenClaim := { program := "ytmcejefeloljiaa", sum := "b494bc5d8cd23707ece5d9f27b7c01eee405d4164ee365444aae082e4123e062", func := "backflush/backflushlaw09.UnitsResolved", spec := "unitsResolved", unfollowed := true, recurses := true, apart := false }
def UnitsResolvedSaid : Prop := unitsResolvedRow.holds Try.pinned (OpenSpec.ofChange unitsResolvedSpec)

/-- ITS FALSE NEIGHBOUR: 'it returns false'. Refute it at one input. -/
def unitsResolvedWrong : ChangeSpec := { name := "unitsResolved", fn := fun _ => fun
  | [d] => { results := [.lit (.bool false)], args := [d] }
  | _ => none }
def UnitsResolvedWrongFalsely : Prop := unitsResolvedRow.holds Try.pinned (OpenSpec.ofChange unitsResolvedWrong)

/-- 'backflushlaw09.UnitsBack': WHATEVER THE INPUT: true; the input reads as it did. -/
def unitsBackSpec : ChangeSpec := { name := "unitsBack", fn := fun _ => fun
  | [d1, d2, d3, d4, d5] => { results := [.lit (.bool true)], args := [d1, d2, d3, d4, d5] }
  | _ => none }
def unitsBackRow : OpenClaim := { program := "ytmcejefeloljiaa", sum := "b494bc5d8cd23707ece5d9f27b7c01eee405d4164ee365444aae082e4123e062", func := "backflush/backflushlaw09.UnitsBack", spec := "unitsBack", unfollowed := true, recurses := true, apart := false }
def UnitsBackSaid : Prop := unitsBackRow.holds Try.pinned (OpenSpec.ofChange unitsBackSpec)

/-- ITS FALSE NEIGHBOUR: 'it returns false'. Refute it at one input. -/
def unitsBackWrong : ChangeSpec := { name := "unitsBack", fn := fun _ => fun
  | [d1, d2, d3, d4, d5] => { results := [.lit (.bool false)], args := [d1, d2, d3, d4, d5] }
  | _ => none }
def UnitsBackWrongFalsely : Prop := unitsBackRow.holds Try.pinned (OpenSpec.ofChange unitsBackWrong)

/-- 'backflushlaw09.UnitsMore': WHATEVER THE INPUT: true; the input reads as it did. -/
def unitsMoreSpec : ChangeSpec := { name := "unitsMore", fn := fun _ => fun
  | [d1, d2, d3, d4, d5] => { results := [.lit (.bool true)], args := [d1, d2, d3, d4, d5] }
  | _ => none }
def unitsMoreRow : OpenClaim := { program := "ytmcejefeloljiaa", sum := "b494bc5d8cd23707ece5d9f27b7c01eee405d4164ee365444aae082e4123e062", func := "backflush/backflushlaw09.UnitsMore", spec := "unitsMore", unfollowed := true, recurses := true, apart := false }
def UnitsMoreSaid : Prop := unitsMoreRow.holds Try.pinned (OpenSpec.ofChange unitsMoreSpec)

/-- ITS FALSE NEIGHBOUR: 'it returns false'. Refute it at one input. -/
def unitsMoreWrong : ChangeSpec := { name := "unitsMore", fn := fun _ => fun
  | [d1, d2, d3, d4, d5] => { results := [.lit (.bool false)], args := [d1, d2, d3, d4, d5] }
  | _ => none }
def UnitsMoreWrongFalsely : Prop := unitsMoreRow.holds Try.pinned (OpenSpec.ofChange unitsMoreWrong)

/-- 'backflushlaw09.UnitsSums': WHATEVER THE INPUT: true; the input reads as it did. -/
def unitsSumsSpec : ChangeSpec := { name := "unitsSums", fn := fun _ => fun
  | [d1, d2, d3, d4, d5] => { results := [.lit (.bool true)], args := [d1, d2, d3, d4, d5] }
  | _ => none }
def unitsSumsRow : OpenClaim := { program := "ytmcejefeloljiaa", sum := "b494bc5d8cd23707ece5d9f27b7c01eee405d4164ee365444aae082e4123e062", func := "backflush/backflushlaw09.UnitsSums", spec := "unitsSums", unfollowed := true, recurses := true, apart := false }
def UnitsSumsSaid : Prop := unitsSumsRow.holds Try.pinned (OpenSpec.ofChange unitsSumsSpec)

/-- ITS FALSE NEIGHBOUR: 'it returns false'. Refute it at one input. -/
def unitsSumsWrong : ChangeSpec := { name := "unitsSums", fn := fun _ => fun
  | [d1, d2, d3, d4, d5] => { results := [.lit (.bool false)], args := [d1, d2, d3, d4, d5] }
  | _ => none }
def UnitsSumsWrongFalsely : Prop := unitsSumsRow.holds Try.pinned (OpenSpec.ofChange unitsSumsWrong)

/-- 'backflushlaw11.NamesAgain': WHATEVER THE INPUT: true; the input reads as it did. -/
def namesAgainSpec : ChangeSpec := { name := "namesAgain", fn := fun _ => fun
  | [d] => { results := [.lit (.bool true)], args := [d] }
  | _ => none }
def namesAgainRow : OpenClaim := { program := "ytmcejefeloljiaa", sum := "b494bc5d8cd23707ece5d9f27b7c01eee405d4164ee365444aae082e4123e062", func := "backflush/backflushlaw11.NamesAgain", spec := "namesAgain", unfollowed := true, recurses := true, apart := false }
def NamesAgainSaid : Prop := namesAgainRow.holds Try.pinned (OpenSpec.ofChange namesAgainSpec)

/-- ITS FALSE NEIGHBOUR: 'it returns false'. Refute it at one input. -/
def namesAgainWrong : ChangeSpec := { name := "namesAgain", fn := fun _ => fun
  | [d] => { results := [.lit (.bool false)], args := [d] }
  | _ => none }
def NamesAgainWrongFalsely : Prop := namesAgainRow.holds Try.pinned (OpenSpec.ofChange namesAgainWrong)

/-- 'backflushlaw11.NamesTwice': WHATEVER THE INPUT: true; the input reads as it did. -/
def namesTwiceSpec : ChangeSpec := { name := "namesTwice", fn := fun _ => fun
  | [d1, d2] => { results := [.lit (.bool true)], args := [d1, d2] }
  | _ => none }
def namesTwiceRow : OpenClaim := { program := "ytmcejefeloljiaa", sum := "b494bc5d8cd23707ece5d9f27b7c01eee405d4164ee365444aae082e4123e062", func := "backflush/backflushlaw11.NamesTwice", spec := "namesTwice", unfollowed := true, recurses := true, apart := false }
def NamesTwiceSaid : Prop := namesTwiceRow.holds Try.pinned (OpenSpec.ofChange namesTwiceSpec)

/-- ITS FALSE NEIGHBOUR: 'it returns false'. Refute it at one input. -/
def namesTwiceWrong : ChangeSpec := { name := "namesTwice", fn := fun _ => fun
  | [d1, d2] => { results := [.lit (.bool false)], args := [d1, d2] }
  | _ => none }
def NamesTwiceWrongFalsely : Prop := namesTwiceRow.holds Try.pinned (OpenSpec.ofChange namesTwiceWrong)

/-- 'backflushlaw11.NamesMissing': WHATEVER THE INPUT: true; the input reads as it did. -/
def namesMissingSpec : ChangeSpec := { name := "namesMissing", fn := fun _ => fun
  | [d1, d2] => { results := [.lit (.bool true)], args := [d1, d2] }
  | _ => none }
def namesMissingRow : OpenClaim := { program := "ytmcejefeloljiaa", sum := "b494bc5d8cd23707ece5d9f27b7c01eee405d4164ee365444aae082e4123e062", func := "backflush/backflushlaw11.NamesMissing", spec := "namesMissing", unfollowed := true, recurses := true, apart := false }
def NamesMissingSaid : Prop := namesMissingRow.holds Try.pinned (OpenSpec.ofChange namesMissingSpec)

/-- ITS FALSE NEIGHBOUR: 'it returns false'. Refute it at one input. -/
def namesMissingWrong : ChangeSpec := { name := "namesMissing", fn := fun _ => fun
  | [d1, d2] => { results := [.lit (.bool false)], args := [d1, d2] }
  | _ => none }
def NamesMissingWrongFalsely : Prop := namesMissingRow.holds Try.pinned (OpenSpec.ofChange namesMissingWrong)

/- THE SECOND FORM. 'bulk': how many values and letters a reading holds, each counted each time it is reached (what is shared counts as often as it is met; a slice's spare places count too). A statement '..UptoSaid' is the law's where the arguments, and the package variables that the reading takes, are together of bulk at most 1048576: NARROWER than '..Said'. Prove '..Said' where nothing that the law and all that it calls make is longer than what came in: it says more and counts as full. Else prove '..UptoSaid'. A law counts once. -/
mutual
def uptoBulk {H : Type} : DataW H → Nat
  | .lit (.string bytes) => bytes.length + 1
  | .lit _ => 1
  | .nil => 1
  | .ptr d => uptoBulk d + 1
  | .slice elems spare => uptoBulkAll elems + uptoBulkAll spare + 1
  | .agg parts => uptoBulkAll parts + 1
  | .iface _ d => uptoBulk d + 1
  | .map entries => uptoBulkEntries entries + 1
  | .held _ => 1
def uptoBulkAll {H : Type} : List (DataW H) → Nat
  | [] => 0
  | d :: r => uptoBulk d + uptoBulkAll r
def uptoBulkEntries {H : Type} : List (Lit × DataW H) → Nat
  | [] => 0
  | x :: r => uptoBulkEntry x + uptoBulkEntries r
def uptoBulkEntry {H : Type} : Lit × DataW H → Nat
  | (.string bytes, d) => bytes.length + uptoBulk d + 1
  | (_, d) => uptoBulk d + 1
 end
def uptoSmall : (H : Type) → List (DataW H) → Bool := fun _ ds => decide (uptoBulkAll ds ≤ 1048576)
def OpenSpec.upto (s : _root_.Go.ChangeSpec) : _root_.Go.OpenSpec := { _root_.Go.OpenSpec.ofChange s with cond := some uptoSmall }

/-- 'backflushlaw07.RatiosNewSpec', WHERE WHAT IT READS IS OF BULK AT MOST 1048576: true; the input reads as it did. -/
def ratiosNewSpecUptoRow : OpenClaim := { program := "ytmcejefeloljiaa", sum := "b494bc5d8cd23707ece5d9f27b7c01eee405d4164ee365444aae082e4123e062", func := "backflush/backflushlaw07.RatiosNewSpec", spec := "ratiosNewSpec", unfollowed := true, recurses := true, apart := false, narrowed := true }
def RatiosNewSpecUptoSaid : Prop := ratiosNewSpecUptoRow.holds Try.pinned (OpenSpec.upto ratiosNewSpecSpec)

/-- 'backflushlaw07.RatiosArithSpec', WHERE WHAT IT READS IS OF BULK AT MOST 1048576: true; the input reads as it did. -/
def ratiosArithSpecUptoRow : OpenClaim := { program := "ytmcejefeloljiaa", sum := "b494bc5d8cd23707ece5d9f27b7c01eee405d4164ee365444aae082e4123e062", func := "backflush/backflushlaw07.RatiosArithSpec", spec := "ratiosArithSpec", unfollowed := true, recurses := true, apart := false, narrowed := true }
def RatiosArithSpecUptoSaid : Prop := ratiosArithSpecUptoRow.holds Try.pinned (OpenSpec.upto ratiosArithSpecSpec)

/-- 'backflushlaw09.UnitsResolved', WHERE WHAT IT READS IS OF BULK AT MOST 1048576: true; the input reads as it did. -/
def unitsResolvedUptoRow : OpenClaim := { program := "ytmcejefeloljiaa", sum := "b494bc5d8cd23707ece5d9f27b7c01eee405d4164ee365444aae082e4123e062", func := "backflush/backflushlaw09.UnitsResolved", spec := "unitsResolved", unfollowed := true, recurses := true, apart := false, narrowed := true }
def UnitsResolvedUptoSaid : Prop := unitsResolvedUptoRow.holds Try.pinned (OpenSpec.upto unitsResolvedSpec)

/-- 'backflushlaw09.UnitsBack', WHERE WHAT IT READS IS OF BULK AT MOST 1048576: true; the input reads as it did. -/
def unitsBackUptoRow : OpenClaim := { program := "ytmcejefeloljiaa", sum := "b494bc5d8cd23707ece5d9f27b7c01eee405d4164ee365444aae082e4123e062", func := "backflush/backflushlaw09.UnitsBack", spec := "unitsBack", unfollowed := true, recurses := true, apart := false, narrowed := true }
def UnitsBackUptoSaid : Prop := unitsBackUptoRow.holds Try.pinned (OpenSpec.upto unitsBackSpec)

/-- 'backflushlaw09.UnitsMore', WHERE WHAT IT READS IS OF BULK AT MOST 1048576: true; the input reads as it did. -/
def unitsMoreUptoRow : OpenClaim := { program := "ytmcejefeloljiaa", sum := "b494bc5d8cd23707ece5d9f27b7c01eee405d4164ee365444aae082e4123e062", func := "backflush/backflushlaw09.UnitsMore", spec := "unitsMore", unfollowed := true, recurses := true, apart := false, narrowed := true }
def UnitsMoreUptoSaid : Prop := unitsMoreUptoRow.holds Try.pinned (OpenSpec.upto unitsMoreSpec)

/-- 'backflushlaw09.UnitsSums', WHERE WHAT IT READS IS OF BULK AT MOST 1048576: true; the input reads as it did. -/
def unitsSumsUptoRow : OpenClaim := { program := "ytmcejefeloljiaa", sum := "b494bc5d8cd23707ece5d9f27b7c01eee405d4164ee365444aae082e4123e062", func := "backflush/backflushlaw09.UnitsSums", spec := "unitsSums", unfollowed := true, recurses := true, apart := false, narrowed := true }
def UnitsSumsUptoSaid : Prop := unitsSumsUptoRow.holds Try.pinned (OpenSpec.upto unitsSumsSpec)

/-- 'backflushlaw11.NamesAgain', WHERE WHAT IT READS IS OF BULK AT MOST 1048576: true; the input reads as it did. -/
def namesAgainUptoRow : OpenClaim := { program := "ytmcejefeloljiaa", sum := "b494bc5d8cd23707ece5d9f27b7c01eee405d4164ee365444aae082e4123e062", func := "backflush/backflushlaw11.NamesAgain", spec := "namesAgain", unfollowed := true, recurses := true, apart := false, narrowed := true }
def NamesAgainUptoSaid : Prop := namesAgainUptoRow.holds Try.pinned (OpenSpec.upto namesAgainSpec)

/-- 'backflushlaw11.NamesTwice', WHERE WHAT IT READS IS OF BULK AT MOST 1048576: true; the input reads as it did. -/
def namesTwiceUptoRow : OpenClaim := { program := "ytmcejefeloljiaa", sum := "b494bc5d8cd23707ece5d9f27b7c01eee405d4164ee365444aae082e4123e062", func := "backflush/backflushlaw11.NamesTwice", spec := "namesTwice", unfollowed := true, recurses := true, apart := false, narrowed := true }
def NamesTwiceUptoSaid : Prop := namesTwiceUptoRow.holds Try.pinned (OpenSpec.upto namesTwiceSpec)

/-- 'backflushlaw11.NamesMissing', WHERE WHAT IT READS IS OF BULK AT MOST 1048576: true; the input reads as it did. -/
def namesMissingUptoRow : OpenClaim := { program := "ytmcejefeloljiaa", sum := "b494bc5d8cd23707ece5d9f27b7c01eee405d4164ee365444aae082e4123e062", func := "backflush/backflushlaw11.NamesMissing", spec := "namesMissing", unfollowed := true, recurses := true, apart := false, narrowed := true }
def NamesMissingUptoSaid : Prop := namesMissingUptoRow.holds Try.pinned (OpenSpec.upto namesMissingSpec)

end Rows
end Go.Proofs.Ytmcejefeloljiaa
