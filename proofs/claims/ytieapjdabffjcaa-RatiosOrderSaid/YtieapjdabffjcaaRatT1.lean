/-
  What the symbolic executor shows of the inner functions of package ratios.
-/
import Derived.Test.YtieapjdabffjcaaRatK
namespace Go.Proofs.Ytieapjdabffjcaa
open Go.RowKit Nm Go.SX

set_option maxRecDepth 100000 in
theorem T_check (n : Bool) (a b : ByteArray) : sxEnd Try.prog Rd.no natCon.p 40 20 [.agg #[.bool n, .string a, .string b]] =
    bif szB a then
      bif chkN [a] != 0 then some (Ending.returned (Value.int IntKind.i64 70))
      else
        bif szB b then
          bif chkN [b] != 0 then some (Ending.returned (Value.int IntKind.i64 70))
          else
            bif b.toList == (bs []).toList then some (Ending.returned (Value.int IntKind.i64 70))
            else
              bif n then
                bif a.toList == (bs []).toList then some (Ending.returned (Value.int IntKind.i64 70))
                else
                  bif szB a && szB b then
                    bif !(gcdF a b).fst.toList == (bs [1]).toList then
                      some (Ending.returned (Value.int IntKind.i64 70))
                    else some (Ending.returned (Value.int IntKind.i64 0))
                  else none
              else
                bif szB a && szB b then
                  bif !(gcdF a b).fst.toList == (bs [1]).toList then
                    some (Ending.returned (Value.int IntKind.i64 70))
                  else some (Ending.returned (Value.int IntKind.i64 0))
                else none
        else none
    else none := by kernel_rfl

set_option maxRecDepth 100000 in
theorem T_times (a b : ByteArray) : sxEnd Try.prog Rd.no natCon.p 40 56 [.string a, .string b] =
    bif szB a && szB b then
      bif (mulF a b).snd != 0 then
        some
          (Ending.panicked
            [{ v := Value.iface 90 (Value.agg { toList := [Value.int IntKind.i64 2] }), recovered := false }])
      else some (Ending.returned (Value.string (mulF a b).fst))
    else none := by kernel_rfl

set_option maxRecDepth 100000 in
theorem T_plus (a b : ByteArray) : sxEnd Try.prog Rd.no natCon.p 40 60 [.string a, .string b] =
    bif szB a && szB b then
      bif (addF a b).snd != 0 then
        some
          (Ending.panicked
            [{ v := Value.iface 90 (Value.agg { toList := [Value.int IntKind.i64 2] }), recovered := false }])
      else some (Ending.returned (Value.string (addF a b).fst))
    else none := by kernel_rfl

set_option maxRecDepth 100000 in
theorem T_sadd (n m : Bool) (a b : ByteArray) : sxEnd Try.prog Rd.no natCon.p 40 89 [.agg #[.bool n, .string a], .agg #[.bool m, .string b]] =
    bif n == m then
      bif szB a && szB b then
        bif (addF a b).snd != 0 then
          some
            (Ending.panicked
              [{ v := Value.iface 90 (Value.agg { toList := [Value.int IntKind.i64 2] }), recovered := false }])
        else some (Ending.returned (Value.agg { toList := [Value.bool n, Value.string (addF a b).fst] }))
      else none
    else
      bif szB a && szB b then
        bif decide ((cmpF a b).fst < 0) then
          bif szB b && szB a then
            bif (subF b a).snd != 0 then
              some
                (Ending.panicked
                  [{ v := Value.iface 90 (Value.agg { toList := [Value.int IntKind.i64 2] }), recovered := false }])
            else some (Ending.returned (Value.agg { toList := [Value.bool m, Value.string (subF b a).fst] }))
          else none
        else
          bif szB a && szB b then
            bif (subF a b).snd != 0 then
              some
                (Ending.panicked
                  [{ v := Value.iface 90 (Value.agg { toList := [Value.int IntKind.i64 2] }), recovered := false }])
            else some (Ending.returned (Value.agg { toList := [Value.bool n, Value.string (subF a b).fst] }))
          else none
      else none := by kernel_rfl

set_option maxRecDepth 100000 in
theorem T_over (n : Bool) (a d : ByteArray) : sxEnd Try.prog Rd.no natCon.p 40 36 [.agg #[.bool n, .string a], .string d] =
    bif szB a && szB d then
      bif (gcdF a d).snd != 0 then
        some
          (Ending.panicked
            [{ v := Value.iface 90 (Value.agg { toList := [Value.int IntKind.i64 2] }), recovered := false }])
      else
        bif szB a && szB (gcdF a d).fst then
          bif szB d && szB (gcdF a d).fst then
            bif n then
              some
                (Ending.returned
                  (Value.agg
                    {
                      toList :=
                        [Value.bool !(divF a (gcdF a d).fst).fst.toList == (bs []).toList,
                          Value.string (divF a (gcdF a d).fst).fst, Value.string (divF d (gcdF a d).fst).fst] }))
            else
              some
                (Ending.returned
                  (Value.agg
                    {
                      toList :=
                        [Value.bool false, Value.string (divF a (gcdF a d).fst).fst,
                          Value.string (divF d (gcdF a d).fst).fst] }))
          else none
        else none
    else none := by kernel_rfl

set_option maxRecDepth 100000 in
theorem T_amount (n : Int) : sxEnd Try.prog Rd.no natCon.p 40 35 [.int .i64 n] =
    bif decide (n ≥ 0) then
      bif inI n then
        bif (ofF n).snd != 0 then
          some
            (Ending.panicked
              [{ v := Value.iface 90 (Value.agg { toList := [Value.int IntKind.i64 2] }), recovered := false }])
        else some (Ending.returned (Value.string (ofF n).fst))
      else none
    else
      bif inI (IntKind.i64.wrap (0 - IntKind.i64.wrap (n + 1))) then
        bif (ofF (IntKind.i64.wrap (0 - IntKind.i64.wrap (n + 1)))).snd != 0 then
          some
            (Ending.panicked
              [{ v := Value.iface 90 (Value.agg { toList := [Value.int IntKind.i64 2] }), recovered := false }])
        else
          bif szB (ofF (IntKind.i64.wrap (0 - IntKind.i64.wrap (n + 1)))).fst && szB (bs [1]) then
            bif (addF (ofF (IntKind.i64.wrap (0 - IntKind.i64.wrap (n + 1)))).fst (bs [1])).snd != 0 then
              some
                (Ending.panicked
                  [{ v := Value.iface 90 (Value.agg { toList := [Value.int IntKind.i64 2] }), recovered := false }])
            else
              some
                (Ending.returned
                  (Value.string (addF (ofF (IntKind.i64.wrap (0 - IntKind.i64.wrap (n + 1)))).fst (bs [1])).fst))
          else none
      else none := by kernel_rfl

end Go.Proofs.Ytieapjdabffjcaa
