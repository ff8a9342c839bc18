/-
  Package ratios: what its functions come to, and the table of the inner ones.
-/
import Derived.Test.YtieapjdabffjcaaNatC
namespace Go.Proofs.Ytieapjdabffjcaa
open Go.RowKit Nm Go.SX

def rtV (r : Rt) : Value := .agg #[.bool r.neg, .string r.n, .string r.d]
def sgV (r : Sg) : Value := .agg #[.bool r.neg, .string r.n]
def panS (e : Int) : OutE := .pan (.val (.iface 90 (.agg #[.int .i64 e])))
def optS (o : Option ByteArray) : R3 OutE := .br o.isSome (.ok (.ret (.val (.string (o.getD ⟨#[]⟩))))) (.ok (panS 2))
def optG (o : Option Sg) : R3 OutE := .br o.isSome (.ok (.ret (.val (.agg #[.bool (o.getD ⟨false, ⟨#[]⟩⟩).neg, .string (o.getD ⟨false, ⟨#[]⟩⟩).n])))) (.ok (panS 2))
def zR : Rt := ⟨false, ⟨#[]⟩, ⟨#[]⟩⟩
def optR (o : Option Rt) : R3 OutE := .br o.isSome (.ok (.ret (.val (.agg #[.bool (o.getD zR).neg, .string (o.getD zR).n, .string (o.getD zR).d])))) (.ok (panS 2))
def ratCon : ECon := fun f =>
  match f with
  | 20 => some fun vs => match vs with
    | [.agg ⟨[.bool n, .string a, .string b]⟩] => .need (szB a && szB b) (.ok (.ret (.val (.int .i64 (checkR ⟨n, a, b⟩)))))
    | _ => .no
  | 56 => some fun vs => match vs with
    | [.string a, .string b] => .need (szB a && szB b) (optS (timesO a b))
    | _ => .no
  | 60 => some fun vs => match vs with
    | [.string a, .string b] => .need (szB a && szB b) (optS (plusO a b))
    | _ => .no
  | 89 => some fun vs => match vs with
    | [.agg ⟨[.bool n, .string a]⟩, .agg ⟨[.bool m, .string b]⟩] => .need (szB a && szB b) (optG (saddO ⟨n, a⟩ ⟨m, b⟩))
    | _ => .no
  | 36 => some fun vs => match vs with
    | [.agg ⟨[.bool n, .string a]⟩, .string d] => .need (szB a && szB d) (optR (overO ⟨n, a⟩ d))
    | _ => .no
  | 35 => some fun vs => match vs with
    | [.int .i64 n] => .need (inI n) (.ok (.ret (.val (.string (encS n.natAbs)))))
    | _ => .no
  | f => natCon f
/-- end of a call that hands back a text, or fails -/
def endS (o : Option ByteArray) : Ending := match o with | some s => .returned (.string s) | none => .panicked [{ v := .iface 90 (.agg #[.int .i64 2]), recovered := false }]

end Go.Proofs.Ytieapjdabffjcaa
