/-
  What the symbolic executor shows of a law of package ratios.
-/
import Derived.Test.YtieapjdabffjcaaRatP
namespace Go.Proofs.Ytieapjdabffjcaa
open Go.RowKit Nm Go.SX

set_option maxRecDepth 100000 in
theorem T_round (x : Rt) : sxEnd Try.prog Rd.no lawCon.p 60 8 [.agg #[.bool x.neg, .string x.n, .string x.d]] =
    bif szB x.n && szB x.d then
      bif checkR x != 0 then some (Ending.returned (Value.bool true))
      else
        bif decide (((x.n.size : Nat) : Int) ≤ 20) then
          bif !decide (((x.d.size : Nat) : Int) ≤ 20) then some (Ending.returned (Value.bool true))
          else
            bif szB x.n && szB x.d then
              bif szB (bs []) && szB (strOf [1]) && (szB x.n && szB x.d) then
                bif
                    szB (subR { neg := false, n := (bs []), d := strOf [1] } x).fst.n &&
                      szB (subR { neg := false, n := (bs []), d := strOf [1] } x).fst.d then
                  bif (subR { neg := false, n := (bs []), d := strOf [1] } x).snd != 0 then
                    some (Ending.returned (Value.bool false))
                  else
                    bif
                        (floorR x).snd !=
                          (ceilR (subR { neg := false, n := (bs []), d := strOf [1] } x).fst).snd then
                      some (Ending.returned (Value.bool false))
                    else
                      bif (floorR x).snd != 0 then
                        bif (floorR x).snd != 2 then some (Ending.returned (Value.bool false))
                        else
                          bif (floorR x).snd != 0 then
                            bif (floorR x).fst == 0 then
                              some
                                (Ending.returned
                                  (Value.bool
                                    ((ceilR (subR { neg := false, n := (bs []), d := strOf [1] } x).fst).fst == 0)))
                            else some (Ending.returned (Value.bool false))
                          else
                            bif inI (floorR x).fst && inI 1 then
                              bif
                                  szB (newR (floorR x).fst 1).fst.n && szB (newR (floorR x).fst 1).fst.d &&
                                    (szB (strOf [1]) && szB (strOf [1])) then
                                bif
                                    szB (newR (floorR x).fst 1).fst.n && szB (newR (floorR x).fst 1).fst.d &&
                                      (szB x.n && szB x.d) then
                                  bif
                                      szB x.n && szB x.d &&
                                        (szB
                                            (addR (newR (floorR x).fst 1).fst
                                                  { neg := false, n := strOf [1], d := strOf [1] }).fst.n &&
                                          szB
                                            (addR (newR (floorR x).fst 1).fst
                                                  { neg := false, n := strOf [1], d := strOf [1] }).fst.d) then
                                    bif (newR (floorR x).fst 1).snd == 0 then
                                      bif
                                          (addR (newR (floorR x).fst 1).fst
                                                { neg := false, n := strOf [1], d := strOf [1] }).snd ==
                                            0 then
                                        bif (cmpR (newR (floorR x).fst 1).fst x).snd == 0 then
                                          bif
                                              (cmpR x
                                                    (addR (newR (floorR x).fst 1).fst
                                                        { neg := false, n := strOf [1], d := strOf [1] }).fst).snd ==
                                                0 then
                                            bif decide ((cmpR (newR (floorR x).fst 1).fst x).fst ≤ 0) then
                                              bif
                                                  decide
                                                    ((cmpR x
                                                          (addR (newR (floorR x).fst 1).fst
                                                              { neg := false, n := strOf [1], d := strOf [1] }).fst).fst <
                                                      0) then
                                                some
                                                  (Ending.returned
                                                    (Value.bool
                                                      ((ceilR
                                                            (subR { neg := false, n := (bs []), d := strOf [1] }
                                                                x).fst).fst ==
                                                        IntKind.i64.wrap (0 - (floorR x).fst))))
                                              else some (Ending.returned (Value.bool false))
                                            else some (Ending.returned (Value.bool false))
                                          else some (Ending.returned (Value.bool false))
                                        else some (Ending.returned (Value.bool false))
                                      else some (Ending.returned (Value.bool false))
                                    else some (Ending.returned (Value.bool false))
                                  else none
                                else none
                              else none
                            else none
                      else
                        bif (floorR x).snd != 0 then
                          bif (floorR x).fst == 0 then
                            some
                              (Ending.returned
                                (Value.bool
                                  ((ceilR (subR { neg := false, n := (bs []), d := strOf [1] } x).fst).fst == 0)))
                          else some (Ending.returned (Value.bool false))
                        else
                          bif inI (floorR x).fst && inI 1 then
                            bif
                                szB (newR (floorR x).fst 1).fst.n && szB (newR (floorR x).fst 1).fst.d &&
                                  (szB (strOf [1]) && szB (strOf [1])) then
                              bif
                                  szB (newR (floorR x).fst 1).fst.n && szB (newR (floorR x).fst 1).fst.d &&
                                    (szB x.n && szB x.d) then
                                bif
                                    szB x.n && szB x.d &&
                                      (szB
                                          (addR (newR (floorR x).fst 1).fst
                                                { neg := false, n := strOf [1], d := strOf [1] }).fst.n &&
                                        szB
                                          (addR (newR (floorR x).fst 1).fst
                                                { neg := false, n := strOf [1], d := strOf [1] }).fst.d) then
                                  bif (newR (floorR x).fst 1).snd == 0 then
                                    bif
                                        (addR (newR (floorR x).fst 1).fst
                                              { neg := false, n := strOf [1], d := strOf [1] }).snd ==
                                          0 then
                                      bif (cmpR (newR (floorR x).fst 1).fst x).snd == 0 then
                                        bif
                                            (cmpR x
                                                  (addR (newR (floorR x).fst 1).fst
                                                      { neg := false, n := strOf [1], d := strOf [1] }).fst).snd ==
                                              0 then
                                          bif decide ((cmpR (newR (floorR x).fst 1).fst x).fst ≤ 0) then
                                            bif
                                                decide
                                                  ((cmpR x
                                                        (addR (newR (floorR x).fst 1).fst
                                                            { neg := false, n := strOf [1], d := strOf [1] }).fst).fst <
                                                    0) then
                                              some
                                                (Ending.returned
                                                  (Value.bool
                                                    ((ceilR
                                                          (subR { neg := false, n := (bs []), d := strOf [1] }
                                                              x).fst).fst ==
                                                      IntKind.i64.wrap (0 - (floorR x).fst))))
                                            else some (Ending.returned (Value.bool false))
                                          else some (Ending.returned (Value.bool false))
                                        else some (Ending.returned (Value.bool false))
                                      else some (Ending.returned (Value.bool false))
                                    else some (Ending.returned (Value.bool false))
                                  else some (Ending.returned (Value.bool false))
                                else none
                              else none
                            else none
                          else none
                else none
              else none
            else none
        else some (Ending.returned (Value.bool true))
    else none := by kernel_rfl

end Go.Proofs.Ytieapjdabffjcaa
