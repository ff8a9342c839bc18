/-
  What the symbolic executor shows of Ceil.
-/
import Derived.Test.YtieapjdabffjcaaRatM
namespace Go.Proofs.Ytieapjdabffjcaa
open Go.RowKit Nm Go.SX

set_option maxRecDepth 100000 in
theorem T_ceil (n : Bool) (a b : ByteArray) : sxEnd Try.prog Rd.no flCon.p 40 16 [.agg #[.bool n, .string a, .string b]] =
    bif szB a && szB b then
      bif checkR { neg := n, n := a, d := b } != 0 then
        some
          (Ending.returned
            (Value.tuple
              { toList := [Value.int IntKind.i64 0, Value.int IntKind.i64 (checkR { neg := n, n := a, d := b })] }))
      else
        bif !n then
          bif szB a && szB b then
            some
              (Ending.returned
                (Value.tuple
                  {
                    toList :=
                      [Value.int IntKind.i64
                          (IntKind.i64.wrap
                            (0 -
                              (floorR
                                  { neg := bif true then !a.toList == (bs []).toList else false, n := a,
                                    d := b }).fst)),
                        Value.int IntKind.i64
                          (floorR
                              { neg := bif true then !a.toList == (bs []).toList else false, n := a,
                                d := b }).snd] }))
          else none
        else
          bif szB a && szB b then
            some
              (Ending.returned
                (Value.tuple
                  {
                    toList :=
                      [Value.int IntKind.i64 (IntKind.i64.wrap (0 - (floorR { neg := false, n := a, d := b }).fst)),
                        Value.int IntKind.i64 (floorR { neg := false, n := a, d := b }).snd] }))
          else none
    else none := by kernel_rfl

end Go.Proofs.Ytieapjdabffjcaa
