/-
  What the symbolic executor shows of a law of package ratios.
-/
import Derived.Test.YtieapjdabffjcaaRatP
namespace Go.Proofs.Ytieapjdabffjcaa
open Go.RowKit Nm Go.SX

set_option maxRecDepth 100000 in
theorem T_ints (a b : Int) : sxEnd Try.prog Rd.no lawCon.p 60 7 [.int .i32 a, .int .i32 b] =
    bif inI (IntKind.i64.wrap a) && inI 1 then
      bif inI (IntKind.i64.wrap b) && inI 1 then
        bif
            szB (newR (IntKind.i64.wrap a) 1).fst.n && szB (newR (IntKind.i64.wrap a) 1).fst.d &&
              (szB (newR (IntKind.i64.wrap b) 1).fst.n && szB (newR (IntKind.i64.wrap b) 1).fst.d) then
          bif
              szB (newR (IntKind.i64.wrap a) 1).fst.n && szB (newR (IntKind.i64.wrap a) 1).fst.d &&
                (szB (newR (IntKind.i64.wrap b) 1).fst.n && szB (newR (IntKind.i64.wrap b) 1).fst.d) then
            bif
                szB (newR (IntKind.i64.wrap a) 1).fst.n && szB (newR (IntKind.i64.wrap a) 1).fst.d &&
                  (szB (newR (IntKind.i64.wrap b) 1).fst.n && szB (newR (IntKind.i64.wrap b) 1).fst.d) then
              bif inI (IntKind.i64.wrap (IntKind.i64.wrap a + IntKind.i64.wrap b)) && inI 1 then
                bif inI (IntKind.i64.wrap (IntKind.i64.wrap a - IntKind.i64.wrap b)) && inI 1 then
                  bif inI (IntKind.i64.wrap (IntKind.i64.wrap a * IntKind.i64.wrap b)) && inI 1 then
                    bif
                        szB (newR (IntKind.i64.wrap a) 1).fst.n && szB (newR (IntKind.i64.wrap a) 1).fst.d &&
                          (szB (newR (IntKind.i64.wrap b) 1).fst.n && szB (newR (IntKind.i64.wrap b) 1).fst.d) then
                      bif (newR (IntKind.i64.wrap a) 1).snd != 0 then some (Ending.returned (Value.bool false))
                      else
                        bif (newR (IntKind.i64.wrap b) 1).snd != 0 then some (Ending.returned (Value.bool false))
                        else
                          bif (addR (newR (IntKind.i64.wrap a) 1).fst (newR (IntKind.i64.wrap b) 1).fst).snd != 0 then
                            some (Ending.returned (Value.bool false))
                          else
                            bif (subR (newR (IntKind.i64.wrap a) 1).fst (newR (IntKind.i64.wrap b) 1).fst).snd != 0 then
                              some (Ending.returned (Value.bool false))
                            else
                              bif (mulR (newR (IntKind.i64.wrap a) 1).fst (newR (IntKind.i64.wrap b) 1).fst).snd != 0 then
                                some (Ending.returned (Value.bool false))
                              else
                                bif (newR (IntKind.i64.wrap (IntKind.i64.wrap a + IntKind.i64.wrap b)) 1).snd != 0 then
                                  some (Ending.returned (Value.bool false))
                                else
                                  bif (newR (IntKind.i64.wrap (IntKind.i64.wrap a - IntKind.i64.wrap b)) 1).snd != 0 then
                                    some (Ending.returned (Value.bool false))
                                  else
                                    bif (newR (IntKind.i64.wrap (IntKind.i64.wrap a * IntKind.i64.wrap b)) 1).snd != 0 then
                                      some (Ending.returned (Value.bool false))
                                    else
                                      bif
                                          (cmpR (newR (IntKind.i64.wrap a) 1).fst (newR (IntKind.i64.wrap b) 1).fst).snd !=
                                            0 then
                                        some (Ending.returned (Value.bool false))
                                      else
                                        bif
                                            !((addR (newR (IntKind.i64.wrap a) 1).fst
                                                        (newR (IntKind.i64.wrap b) 1).fst).fst.neg ==
                                                  (newR (IntKind.i64.wrap (IntKind.i64.wrap a + IntKind.i64.wrap b))
                                                        1).fst.neg &&
                                                ((addR (newR (IntKind.i64.wrap a) 1).fst
                                                          (newR (IntKind.i64.wrap b) 1).fst).fst.n ==
                                                    (newR (IntKind.i64.wrap (IntKind.i64.wrap a + IntKind.i64.wrap b))
                                                          1).fst.n &&
                                                  ((addR (newR (IntKind.i64.wrap a) 1).fst
                                                            (newR (IntKind.i64.wrap b) 1).fst).fst.d ==
                                                      (newR (IntKind.i64.wrap (IntKind.i64.wrap a + IntKind.i64.wrap b))
                                                            1).fst.d &&
                                                    true))) then
                                          some (Ending.returned (Value.bool false))
                                        else
                                          bif
                                              !((subR (newR (IntKind.i64.wrap a) 1).fst
                                                          (newR (IntKind.i64.wrap b) 1).fst).fst.neg ==
                                                    (newR (IntKind.i64.wrap (IntKind.i64.wrap a - IntKind.i64.wrap b))
                                                          1).fst.neg &&
                                                  ((subR (newR (IntKind.i64.wrap a) 1).fst
                                                            (newR (IntKind.i64.wrap b) 1).fst).fst.n ==
                                                      (newR (IntKind.i64.wrap (IntKind.i64.wrap a - IntKind.i64.wrap b))
                                                            1).fst.n &&
                                                    ((subR (newR (IntKind.i64.wrap a) 1).fst
                                                              (newR (IntKind.i64.wrap b) 1).fst).fst.d ==
                                                        (newR (IntKind.i64.wrap (IntKind.i64.wrap a - IntKind.i64.wrap b))
                                                              1).fst.d &&
                                                      true))) then
                                            some (Ending.returned (Value.bool false))
                                          else
                                            bif
                                                !((mulR (newR (IntKind.i64.wrap a) 1).fst
                                                            (newR (IntKind.i64.wrap b) 1).fst).fst.neg ==
                                                      (newR (IntKind.i64.wrap (IntKind.i64.wrap a * IntKind.i64.wrap b))
                                                            1).fst.neg &&
                                                    ((mulR (newR (IntKind.i64.wrap a) 1).fst
                                                              (newR (IntKind.i64.wrap b) 1).fst).fst.n ==
                                                        (newR (IntKind.i64.wrap (IntKind.i64.wrap a * IntKind.i64.wrap b))
                                                              1).fst.n &&
                                                      ((mulR (newR (IntKind.i64.wrap a) 1).fst
                                                                (newR (IntKind.i64.wrap b) 1).fst).fst.d ==
                                                          (newR (IntKind.i64.wrap (IntKind.i64.wrap a * IntKind.i64.wrap b))
                                                                1).fst.d &&
                                                        true))) then
                                              some (Ending.returned (Value.bool false))
                                            else
                                              bif
                                                  !decide
                                                        ((cmpR (newR (IntKind.i64.wrap a) 1).fst
                                                              (newR (IntKind.i64.wrap b) 1).fst).fst <
                                                          0) ==
                                                      decide (IntKind.i64.wrap a < IntKind.i64.wrap b) then
                                                some (Ending.returned (Value.bool false))
                                              else
                                                bif
                                                    !decide
                                                          ((cmpR (newR (IntKind.i64.wrap a) 1).fst
                                                                (newR (IntKind.i64.wrap b) 1).fst).fst >
                                                            0) ==
                                                        decide (IntKind.i64.wrap a > IntKind.i64.wrap b) then
                                                  some (Ending.returned (Value.bool false))
                                                else
                                                  bif inI (IntKind.i64.wrap a) && inI (IntKind.i64.wrap b) then
                                                    bif IntKind.i64.wrap b == 0 then
                                                      some
                                                        (Ending.returned
                                                          (Value.bool
                                                            ((newR (IntKind.i64.wrap a) (IntKind.i64.wrap b)).snd == 71)))
                                                    else
                                                      bif
                                                          szB (newR (IntKind.i64.wrap a) 1).fst.n &&
                                                              szB (newR (IntKind.i64.wrap a) 1).fst.d &&
                                                            (szB (newR (IntKind.i64.wrap b) 1).fst.n &&
                                                              szB (newR (IntKind.i64.wrap b) 1).fst.d) then
                                                        bif
                                                            szB (newR (IntKind.i64.wrap a) (IntKind.i64.wrap b)).fst.n &&
                                                              szB
                                                                (newR (IntKind.i64.wrap a) (IntKind.i64.wrap b)).fst.d then
                                                          bif
                                                              szB (newR (IntKind.i64.wrap a) (IntKind.i64.wrap b)).fst.n &&
                                                                szB
                                                                  (newR (IntKind.i64.wrap a)
                                                                        (IntKind.i64.wrap b)).fst.d then
                                                            bif
                                                                (newR (IntKind.i64.wrap a) (IntKind.i64.wrap b)).snd !=
                                                                  0 then
                                                              some (Ending.returned (Value.bool false))
                                                            else
                                                              bif
                                                                  (divR (newR (IntKind.i64.wrap a) 1).fst
                                                                        (newR (IntKind.i64.wrap b) 1).fst).snd !=
                                                                    0 then
                                                                some (Ending.returned (Value.bool false))
                                                              else
                                                                bif
                                                                    (floorR
                                                                          (newR (IntKind.i64.wrap a)
                                                                              (IntKind.i64.wrap b)).fst).snd !=
                                                                      0 then
                                                                  some (Ending.returned (Value.bool false))
                                                                else
                                                                  bif
                                                                      (ceilR
                                                                            (newR (IntKind.i64.wrap a)
                                                                                (IntKind.i64.wrap b)).fst).snd !=
                                                                        0 then
                                                                    some (Ending.returned (Value.bool false))
                                                                  else
                                                                    bif
                                                                        !((newR (IntKind.i64.wrap a)
                                                                                    (IntKind.i64.wrap b)).fst.neg ==
                                                                              (divR (newR (IntKind.i64.wrap a) 1).fst
                                                                                    (newR (IntKind.i64.wrap b)
                                                                                        1).fst).fst.neg &&
                                                                            ((newR (IntKind.i64.wrap a)
                                                                                      (IntKind.i64.wrap b)).fst.n ==
                                                                                (divR (newR (IntKind.i64.wrap a) 1).fst
                                                                                      (newR (IntKind.i64.wrap b)
                                                                                          1).fst).fst.n &&
                                                                              ((newR (IntKind.i64.wrap a)
                                                                                        (IntKind.i64.wrap b)).fst.d ==
                                                                                  (divR (newR (IntKind.i64.wrap a) 1).fst
                                                                                        (newR (IntKind.i64.wrap b)
                                                                                            1).fst).fst.d &&
                                                                                true))) then
                                                                      some (Ending.returned (Value.bool false))
                                                                    else
                                                                      bif
                                                                          decide (IntKind.i64 = IntKind.i64) &&
                                                                            !decide (IntKind.i64.wrap b = 0) then
                                                                        bif
                                                                            !(IntKind.i64.wrap
                                                                                    ((ceilR
                                                                                          (newR (IntKind.i64.wrap a)
                                                                                              (IntKind.i64.wrap
                                                                                                b)).fst).fst -
                                                                                      (floorR
                                                                                          (newR (IntKind.i64.wrap a)
                                                                                              (IntKind.i64.wrap
                                                                                                b)).fst).fst) ==
                                                                                  0) ==
                                                                                ((IntKind.i64.wrap a).tmod
                                                                                    (IntKind.i64.wrap b) ==
                                                                                  0) then
                                                                          some (Ending.returned (Value.bool false))
                                                                        else
                                                                          bif
                                                                              decide
                                                                                (IntKind.i64.wrap
                                                                                    ((ceilR
                                                                                          (newR (IntKind.i64.wrap a)
                                                                                              (IntKind.i64.wrap
                                                                                                b)).fst).fst -
                                                                                      (floorR
                                                                                          (newR (IntKind.i64.wrap a)
                                                                                              (IntKind.i64.wrap
                                                                                                b)).fst).fst) <
                                                                                  0) then
                                                                            some (Ending.returned (Value.bool false))
                                                                          else
                                                                            bif
                                                                                decide
                                                                                  (IntKind.i64.wrap
                                                                                      ((ceilR
                                                                                            (newR (IntKind.i64.wrap a)
                                                                                                (IntKind.i64.wrap
                                                                                                  b)).fst).fst -
                                                                                        (floorR
                                                                                            (newR (IntKind.i64.wrap a)
                                                                                                (IntKind.i64.wrap
                                                                                                  b)).fst).fst) >
                                                                                    1) then
                                                                              some (Ending.returned (Value.bool false))
                                                                            else
                                                                              bif decide (IntKind.i64.wrap b < 0) then
                                                                                bif
                                                                                    decide
                                                                                      (IntKind.i64.wrap
                                                                                          ((floorR
                                                                                                (newR (IntKind.i64.wrap a)
                                                                                                    (IntKind.i64.wrap
                                                                                                      b)).fst).fst *
                                                                                            IntKind.i64.wrap
                                                                                              (0 - IntKind.i64.wrap b)) ≤
                                                                                        IntKind.i64.wrap
                                                                                          (0 - IntKind.i64.wrap a)) then
                                                                                  some
                                                                                    (Ending.returned
                                                                                      (Value.bool
                                                                                        (decide
                                                                                          (IntKind.i64.wrap
                                                                                              (0 - IntKind.i64.wrap a) ≤
                                                                                            IntKind.i64.wrap
                                                                                              ((ceilR
                                                                                                    (newR
                                                                                                        (IntKind.i64.wrap a)
                                                                                                        (IntKind.i64.wrap
                                                                                                          b)).fst).fst *
                                                                                                IntKind.i64.wrap
                                                                                                  (0 -
                                                                                                    IntKind.i64.wrap b))))))
                                                                                else
                                                                                  some (Ending.returned (Value.bool false))
                                                                              else
                                                                                bif
                                                                                    decide
                                                                                      (IntKind.i64.wrap
                                                                                          ((floorR
                                                                                                (newR (IntKind.i64.wrap a)
                                                                                                    (IntKind.i64.wrap
                                                                                                      b)).fst).fst *
                                                                                            IntKind.i64.wrap b) ≤
                                                                                        IntKind.i64.wrap a) then
                                                                                  some
                                                                                    (Ending.returned
                                                                                      (Value.bool
                                                                                        (decide
                                                                                          (IntKind.i64.wrap a ≤
                                                                                            IntKind.i64.wrap
                                                                                              ((ceilR
                                                                                                    (newR
                                                                                                        (IntKind.i64.wrap a)
                                                                                                        (IntKind.i64.wrap
                                                                                                          b)).fst).fst *
                                                                                                IntKind.i64.wrap b)))))
                                                                                else
                                                                                  some (Ending.returned (Value.bool false))
                                                                      else none
                                                          else none
                                                        else none
                                                      else none
                                                  else none
                    else none
                  else none
                else none
              else none
            else none
          else none
        else none
      else none
    else none := by kernel_rfl

end Go.Proofs.Ytieapjdabffjcaa
