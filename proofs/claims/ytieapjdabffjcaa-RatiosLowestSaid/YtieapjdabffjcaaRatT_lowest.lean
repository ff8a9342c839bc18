/-
  What the symbolic executor shows of a law of package ratios.
-/
import Derived.Test.YtieapjdabffjcaaRatP
namespace Go.Proofs.Ytieapjdabffjcaa
open Go.RowKit Nm Go.SX

set_option maxRecDepth 100000 in
theorem T_lowest (x y : Rt) : sxEnd Try.prog Rd.no lawCon.p 60 9 [.agg #[.bool x.neg, .string x.n, .string x.d], .agg #[.bool y.neg, .string y.n, .string y.d]] =
    bif szB x.n && szB x.d then
      bif checkR x != 0 then some (Ending.returned (Value.bool true))
      else
        bif szB y.n && szB y.d then
          bif checkR y != 0 then some (Ending.returned (Value.bool true))
          else
            bif decide (((x.n.size : Nat) : Int) ≤ 20) then
              bif !decide (((x.d.size : Nat) : Int) ≤ 20) then some (Ending.returned (Value.bool true))
              else
                bif decide (((y.n.size : Nat) : Int) ≤ 20) then
                  bif !decide (((y.d.size : Nat) : Int) ≤ 20) then some (Ending.returned (Value.bool true))
                  else
                    bif szB x.n && szB x.d && (szB y.n && szB y.d) then
                      bif szB x.n && szB x.d && (szB y.n && szB y.d) then
                        bif szB x.n && szB x.d && (szB y.n && szB y.d) then
                          bif szB x.n && szB x.d then
                            bif checkR x != 0 then
                              bif szB (addR x y).fst.n && szB (addR x y).fst.d && (szB x.n && szB x.d) then
                                bif (addR x y).snd != 0 then some (Ending.returned (Value.bool false))
                                else
                                  bif (subR x y).snd != 0 then some (Ending.returned (Value.bool false))
                                  else
                                    bif (mulR x y).snd != 0 then some (Ending.returned (Value.bool false))
                                    else
                                      bif checkR x != 0 then some (Ending.returned (Value.bool false))
                                      else
                                        bif (addR (addR x y).fst x).snd != 0 then some (Ending.returned (Value.bool false))
                                        else
                                          bif
                                              !(false == (addR (addR x y).fst x).fst.neg &&
                                                  ((bs []) == (addR (addR x y).fst x).fst.n &&
                                                    ((bs []) == (addR (addR x y).fst x).fst.d && true))) then
                                            some (Ending.returned (Value.bool false))
                                          else
                                            bif szB (addR x y).fst.n && szB (addR x y).fst.d then
                                              bif checkR (addR x y).fst != 0 then some (Ending.returned (Value.bool false))
                                              else
                                                bif szB (subR x y).fst.n && szB (subR x y).fst.d then
                                                  bif checkR (subR x y).fst != 0 then
                                                    some (Ending.returned (Value.bool false))
                                                  else
                                                    bif szB (mulR x y).fst.n && szB (mulR x y).fst.d then
                                                      bif checkR (mulR x y).fst != 0 then
                                                        some (Ending.returned (Value.bool false))
                                                      else
                                                        bif
                                                            ((subR x y).fst.neg == false &&
                                                                ((subR x y).fst.n == (bs []) &&
                                                                  ((subR x y).fst.d == strOf [1] && true))) ==
                                                              (x.neg == y.neg && (x.n == y.n && (x.d == y.d && true))) then
                                                          bif
                                                              x.neg == false &&
                                                                (x.n == (bs []) && (x.d == strOf [1] && true)) then
                                                            some
                                                              (Ending.returned
                                                                (Value.bool
                                                                  (((mulR x y).fst.neg == false &&
                                                                      ((mulR x y).fst.n == (bs []) &&
                                                                        ((mulR x y).fst.d == strOf [1] && true))) ==
                                                                    true)))
                                                          else
                                                            some
                                                              (Ending.returned
                                                                (Value.bool
                                                                  (((mulR x y).fst.neg == false &&
                                                                      ((mulR x y).fst.n == (bs []) &&
                                                                        ((mulR x y).fst.d == strOf [1] && true))) ==
                                                                    (y.neg == false &&
                                                                      (y.n == (bs []) &&
                                                                        (y.d == strOf [1] && true))))))
                                                        else some (Ending.returned (Value.bool false))
                                                    else none
                                                else none
                                            else none
                              else none
                            else
                              bif szB y.n && szB y.d then
                                bif checkR y != 0 then
                                  bif szB (addR x y).fst.n && szB (addR x y).fst.d && (szB x.n && szB x.d) then
                                    bif (addR x y).snd != 0 then some (Ending.returned (Value.bool false))
                                    else
                                      bif (subR x y).snd != 0 then some (Ending.returned (Value.bool false))
                                      else
                                        bif (mulR x y).snd != 0 then some (Ending.returned (Value.bool false))
                                        else
                                          bif checkR y != 0 then some (Ending.returned (Value.bool false))
                                          else
                                            bif (addR (addR x y).fst x).snd != 0 then
                                              some (Ending.returned (Value.bool false))
                                            else
                                              bif
                                                  !(false == (addR (addR x y).fst x).fst.neg &&
                                                      ((bs []) == (addR (addR x y).fst x).fst.n &&
                                                        ((bs []) == (addR (addR x y).fst x).fst.d && true))) then
                                                some (Ending.returned (Value.bool false))
                                              else
                                                bif szB (addR x y).fst.n && szB (addR x y).fst.d then
                                                  bif checkR (addR x y).fst != 0 then
                                                    some (Ending.returned (Value.bool false))
                                                  else
                                                    bif szB (subR x y).fst.n && szB (subR x y).fst.d then
                                                      bif checkR (subR x y).fst != 0 then
                                                        some (Ending.returned (Value.bool false))
                                                      else
                                                        bif szB (mulR x y).fst.n && szB (mulR x y).fst.d then
                                                          bif checkR (mulR x y).fst != 0 then
                                                            some (Ending.returned (Value.bool false))
                                                          else
                                                            bif
                                                                ((subR x y).fst.neg == false &&
                                                                    ((subR x y).fst.n == (bs []) &&
                                                                      ((subR x y).fst.d == strOf [1] && true))) ==
                                                                  (x.neg == y.neg &&
                                                                    (x.n == y.n && (x.d == y.d && true))) then
                                                              bif
                                                                  x.neg == false &&
                                                                    (x.n == (bs []) &&
                                                                      (x.d == strOf [1] && true)) then
                                                                some
                                                                  (Ending.returned
                                                                    (Value.bool
                                                                      (((mulR x y).fst.neg == false &&
                                                                          ((mulR x y).fst.n == (bs []) &&
                                                                            ((mulR x y).fst.d == strOf [1] && true))) ==
                                                                        true)))
                                                              else
                                                                some
                                                                  (Ending.returned
                                                                    (Value.bool
                                                                      (((mulR x y).fst.neg == false &&
                                                                          ((mulR x y).fst.n == (bs []) &&
                                                                            ((mulR x y).fst.d == strOf [1] && true))) ==
                                                                        (y.neg == false &&
                                                                          (y.n == (bs []) &&
                                                                            (y.d == strOf [1] && true))))))
                                                            else some (Ending.returned (Value.bool false))
                                                        else none
                                                    else none
                                                else none
                                  else none
                                else
                                  bif szB x.n && szB x.d then
                                    bif checkR x != 0 then
                                      bif szB (addR x y).fst.n && szB (addR x y).fst.d && (szB x.n && szB x.d) then
                                        bif (addR x y).snd != 0 then some (Ending.returned (Value.bool false))
                                        else
                                          bif (subR x y).snd != 0 then some (Ending.returned (Value.bool false))
                                          else
                                            bif (mulR x y).snd != 0 then some (Ending.returned (Value.bool false))
                                            else
                                              bif checkR x != 0 then some (Ending.returned (Value.bool false))
                                              else
                                                bif (addR (addR x y).fst x).snd != 0 then
                                                  some (Ending.returned (Value.bool false))
                                                else
                                                  bif
                                                      !(false == (addR (addR x y).fst x).fst.neg &&
                                                          ((bs []) == (addR (addR x y).fst x).fst.n &&
                                                            ((bs []) == (addR (addR x y).fst x).fst.d &&
                                                              true))) then
                                                    some (Ending.returned (Value.bool false))
                                                  else
                                                    bif szB (addR x y).fst.n && szB (addR x y).fst.d then
                                                      bif checkR (addR x y).fst != 0 then
                                                        some (Ending.returned (Value.bool false))
                                                      else
                                                        bif szB (subR x y).fst.n && szB (subR x y).fst.d then
                                                          bif checkR (subR x y).fst != 0 then
                                                            some (Ending.returned (Value.bool false))
                                                          else
                                                            bif szB (mulR x y).fst.n && szB (mulR x y).fst.d then
                                                              bif checkR (mulR x y).fst != 0 then
                                                                some (Ending.returned (Value.bool false))
                                                              else
                                                                bif
                                                                    ((subR x y).fst.neg == false &&
                                                                        ((subR x y).fst.n == (bs []) &&
                                                                          ((subR x y).fst.d == strOf [1] && true))) ==
                                                                      (x.neg == y.neg &&
                                                                        (x.n == y.n && (x.d == y.d && true))) then
                                                                  bif
                                                                      x.neg == false &&
                                                                        (x.n == (bs []) &&
                                                                          (x.d == strOf [1] && true)) then
                                                                    some
                                                                      (Ending.returned
                                                                        (Value.bool
                                                                          (((mulR x y).fst.neg == false &&
                                                                              ((mulR x y).fst.n == (bs []) &&
                                                                                ((mulR x y).fst.d == strOf [1] && true))) ==
                                                                            true)))
                                                                  else
                                                                    some
                                                                      (Ending.returned
                                                                        (Value.bool
                                                                          (((mulR x y).fst.neg == false &&
                                                                              ((mulR x y).fst.n == (bs []) &&
                                                                                ((mulR x y).fst.d == strOf [1] && true))) ==
                                                                            (y.neg == false &&
                                                                              (y.n == (bs []) &&
                                                                                (y.d == strOf [1] && true))))))
                                                                else some (Ending.returned (Value.bool false))
                                                            else none
                                                        else none
                                                    else none
                                      else none
                                    else
                                      bif szB (bs []) && szB (bs [1]) && (szB x.n && szB x.d) then
                                        bif
                                            (addR { neg := false, n := (bs []), d := (bs [1]) } x).snd !=
                                              0 then
                                          bif szB (addR x y).fst.n && szB (addR x y).fst.d && (szB x.n && szB x.d) then
                                            bif (addR x y).snd != 0 then some (Ending.returned (Value.bool false))
                                            else
                                              bif (subR x y).snd != 0 then some (Ending.returned (Value.bool false))
                                              else
                                                bif (mulR x y).snd != 0 then some (Ending.returned (Value.bool false))
                                                else
                                                  bif
                                                      (addR { neg := false, n := (bs []), d := (bs [1]) }
                                                            x).snd !=
                                                        0 then
                                                    some (Ending.returned (Value.bool false))
                                                  else
                                                    bif (addR (addR x y).fst x).snd != 0 then
                                                      some (Ending.returned (Value.bool false))
                                                    else
                                                      bif
                                                          !(false == (addR (addR x y).fst x).fst.neg &&
                                                              ((bs []) == (addR (addR x y).fst x).fst.n &&
                                                                ((bs []) == (addR (addR x y).fst x).fst.d &&
                                                                  true))) then
                                                        some (Ending.returned (Value.bool false))
                                                      else
                                                        bif szB (addR x y).fst.n && szB (addR x y).fst.d then
                                                          bif checkR (addR x y).fst != 0 then
                                                            some (Ending.returned (Value.bool false))
                                                          else
                                                            bif szB (subR x y).fst.n && szB (subR x y).fst.d then
                                                              bif checkR (subR x y).fst != 0 then
                                                                some (Ending.returned (Value.bool false))
                                                              else
                                                                bif szB (mulR x y).fst.n && szB (mulR x y).fst.d then
                                                                  bif checkR (mulR x y).fst != 0 then
                                                                    some (Ending.returned (Value.bool false))
                                                                  else
                                                                    bif
                                                                        ((subR x y).fst.neg == false &&
                                                                            ((subR x y).fst.n == (bs []) &&
                                                                              ((subR x y).fst.d == strOf [1] && true))) ==
                                                                          (x.neg == y.neg &&
                                                                            (x.n == y.n && (x.d == y.d && true))) then
                                                                      bif
                                                                          x.neg == false &&
                                                                            (x.n == (bs []) &&
                                                                              (x.d == strOf [1] && true)) then
                                                                        some
                                                                          (Ending.returned
                                                                            (Value.bool
                                                                              (((mulR x y).fst.neg == false &&
                                                                                  ((mulR x y).fst.n == (bs []) &&
                                                                                    ((mulR x y).fst.d == strOf [1] &&
                                                                                      true))) ==
                                                                                true)))
                                                                      else
                                                                        some
                                                                          (Ending.returned
                                                                            (Value.bool
                                                                              (((mulR x y).fst.neg == false &&
                                                                                  ((mulR x y).fst.n == (bs []) &&
                                                                                    ((mulR x y).fst.d == strOf [1] &&
                                                                                      true))) ==
                                                                                (y.neg == false &&
                                                                                  (y.n == (bs []) &&
                                                                                    (y.d == strOf [1] && true))))))
                                                                    else some (Ending.returned (Value.bool false))
                                                                else none
                                                            else none
                                                        else none
                                          else none
                                        else
                                          bif
                                              szB
                                                    (addR { neg := false, n := (bs []), d := (bs [1]) }
                                                          x).fst.n &&
                                                  szB
                                                    (addR { neg := false, n := (bs []), d := (bs [1]) }
                                                          x).fst.d &&
                                                (szB y.n && szB y.d) then
                                            bif
                                                (addR
                                                      (addR { neg := false, n := (bs []), d := (bs [1]) }
                                                          x).fst
                                                      y).snd !=
                                                  0 then
                                              bif szB (addR x y).fst.n && szB (addR x y).fst.d && (szB x.n && szB x.d) then
                                                bif (addR x y).snd != 0 then some (Ending.returned (Value.bool false))
                                                else
                                                  bif (subR x y).snd != 0 then some (Ending.returned (Value.bool false))
                                                  else
                                                    bif (mulR x y).snd != 0 then some (Ending.returned (Value.bool false))
                                                    else
                                                      bif
                                                          (addR
                                                                (addR
                                                                    { neg := false, n := (bs []),
                                                                      d := (bs [1]) }
                                                                    x).fst
                                                                y).snd !=
                                                            0 then
                                                        some (Ending.returned (Value.bool false))
                                                      else
                                                        bif (addR (addR x y).fst x).snd != 0 then
                                                          some (Ending.returned (Value.bool false))
                                                        else
                                                          bif
                                                              !(false == (addR (addR x y).fst x).fst.neg &&
                                                                  ((bs []) == (addR (addR x y).fst x).fst.n &&
                                                                    ((bs []) == (addR (addR x y).fst x).fst.d &&
                                                                      true))) then
                                                            some (Ending.returned (Value.bool false))
                                                          else
                                                            bif szB (addR x y).fst.n && szB (addR x y).fst.d then
                                                              bif checkR (addR x y).fst != 0 then
                                                                some (Ending.returned (Value.bool false))
                                                              else
                                                                bif szB (subR x y).fst.n && szB (subR x y).fst.d then
                                                                  bif checkR (subR x y).fst != 0 then
                                                                    some (Ending.returned (Value.bool false))
                                                                  else
                                                                    bif szB (mulR x y).fst.n && szB (mulR x y).fst.d then
                                                                      bif checkR (mulR x y).fst != 0 then
                                                                        some (Ending.returned (Value.bool false))
                                                                      else
                                                                        bif
                                                                            ((subR x y).fst.neg == false &&
                                                                                ((subR x y).fst.n == (bs []) &&
                                                                                  ((subR x y).fst.d == strOf [1] &&
                                                                                    true))) ==
                                                                              (x.neg == y.neg &&
                                                                                (x.n == y.n && (x.d == y.d && true))) then
                                                                          bif
                                                                              x.neg == false &&
                                                                                (x.n == (bs []) &&
                                                                                  (x.d == strOf [1] && true)) then
                                                                            some
                                                                              (Ending.returned
                                                                                (Value.bool
                                                                                  (((mulR x y).fst.neg == false &&
                                                                                      ((mulR x y).fst.n ==
                                                                                          (bs []) &&
                                                                                        ((mulR x y).fst.d == strOf [1] &&
                                                                                          true))) ==
                                                                                    true)))
                                                                          else
                                                                            some
                                                                              (Ending.returned
                                                                                (Value.bool
                                                                                  (((mulR x y).fst.neg == false &&
                                                                                      ((mulR x y).fst.n ==
                                                                                          (bs []) &&
                                                                                        ((mulR x y).fst.d == strOf [1] &&
                                                                                          true))) ==
                                                                                    (y.neg == false &&
                                                                                      (y.n == (bs []) &&
                                                                                        (y.d == strOf [1] && true))))))
                                                                        else some (Ending.returned (Value.bool false))
                                                                    else none
                                                                else none
                                                            else none
                                              else none
                                            else
                                              bif
                                                  szB
                                                        (addR
                                                              (addR
                                                                  { neg := false, n := (bs []),
                                                                    d := (bs [1]) }
                                                                  x).fst
                                                              y).fst.n &&
                                                      szB
                                                        (addR
                                                              (addR
                                                                  { neg := false, n := (bs []),
                                                                    d := (bs [1]) }
                                                                  x).fst
                                                              y).fst.d &&
                                                    (szB x.n && szB x.d) then
                                                bif
                                                    (addR
                                                          (addR
                                                              (addR
                                                                  { neg := false, n := (bs []),
                                                                    d := (bs [1]) }
                                                                  x).fst
                                                              y).fst
                                                          x).snd !=
                                                      0 then
                                                  bif
                                                      szB (addR x y).fst.n && szB (addR x y).fst.d &&
                                                        (szB x.n && szB x.d) then
                                                    bif (addR x y).snd != 0 then some (Ending.returned (Value.bool false))
                                                    else
                                                      bif (subR x y).snd != 0 then some (Ending.returned (Value.bool false))
                                                      else
                                                        bif (mulR x y).snd != 0 then
                                                          some (Ending.returned (Value.bool false))
                                                        else
                                                          bif
                                                              (addR
                                                                    (addR
                                                                        (addR
                                                                            { neg := false, n := (bs []),
                                                                              d := (bs [1]) }
                                                                            x).fst
                                                                        y).fst
                                                                    x).snd !=
                                                                0 then
                                                            some (Ending.returned (Value.bool false))
                                                          else
                                                            bif (addR (addR x y).fst x).snd != 0 then
                                                              some (Ending.returned (Value.bool false))
                                                            else
                                                              bif
                                                                  !(false == (addR (addR x y).fst x).fst.neg &&
                                                                      ((bs []) == (addR (addR x y).fst x).fst.n &&
                                                                        ((bs []) == (addR (addR x y).fst x).fst.d &&
                                                                          true))) then
                                                                some (Ending.returned (Value.bool false))
                                                              else
                                                                bif szB (addR x y).fst.n && szB (addR x y).fst.d then
                                                                  bif checkR (addR x y).fst != 0 then
                                                                    some (Ending.returned (Value.bool false))
                                                                  else
                                                                    bif szB (subR x y).fst.n && szB (subR x y).fst.d then
                                                                      bif checkR (subR x y).fst != 0 then
                                                                        some (Ending.returned (Value.bool false))
                                                                      else
                                                                        bif
                                                                            szB (mulR x y).fst.n &&
                                                                              szB (mulR x y).fst.d then
                                                                          bif checkR (mulR x y).fst != 0 then
                                                                            some (Ending.returned (Value.bool false))
                                                                          else
                                                                            bif
                                                                                ((subR x y).fst.neg == false &&
                                                                                    ((subR x y).fst.n == (bs []) &&
                                                                                      ((subR x y).fst.d == strOf [1] &&
                                                                                        true))) ==
                                                                                  (x.neg == y.neg &&
                                                                                    (x.n == y.n &&
                                                                                      (x.d == y.d && true))) then
                                                                              bif
                                                                                  x.neg == false &&
                                                                                    (x.n == (bs []) &&
                                                                                      (x.d == strOf [1] && true)) then
                                                                                some
                                                                                  (Ending.returned
                                                                                    (Value.bool
                                                                                      (((mulR x y).fst.neg == false &&
                                                                                          ((mulR x y).fst.n ==
                                                                                              (bs []) &&
                                                                                            ((mulR x y).fst.d ==
                                                                                                strOf [1] &&
                                                                                              true))) ==
                                                                                        true)))
                                                                              else
                                                                                some
                                                                                  (Ending.returned
                                                                                    (Value.bool
                                                                                      (((mulR x y).fst.neg == false &&
                                                                                          ((mulR x y).fst.n ==
                                                                                              (bs []) &&
                                                                                            ((mulR x y).fst.d ==
                                                                                                strOf [1] &&
                                                                                              true))) ==
                                                                                        (y.neg == false &&
                                                                                          (y.n == (bs []) &&
                                                                                            (y.d == strOf [1] && true))))))
                                                                            else some (Ending.returned (Value.bool false))
                                                                        else none
                                                                    else none
                                                                else none
                                                  else none
                                                else
                                                  bif
                                                      szB (addR x y).fst.n && szB (addR x y).fst.d &&
                                                        (szB x.n && szB x.d) then
                                                    bif (addR x y).snd != 0 then some (Ending.returned (Value.bool false))
                                                    else
                                                      bif (subR x y).snd != 0 then some (Ending.returned (Value.bool false))
                                                      else
                                                        bif (mulR x y).snd != 0 then
                                                          some (Ending.returned (Value.bool false))
                                                        else
                                                          bif (addR (addR x y).fst x).snd != 0 then
                                                            some (Ending.returned (Value.bool false))
                                                          else
                                                            bif
                                                                !((addR
                                                                            (addR
                                                                                (addR
                                                                                    { neg := false, n := (bs []),
                                                                                      d := (bs [1]) }
                                                                                    x).fst
                                                                                y).fst
                                                                            x).fst.neg ==
                                                                      (addR (addR x y).fst x).fst.neg &&
                                                                    ((addR
                                                                              (addR
                                                                                  (addR
                                                                                      { neg := false, n := (bs []),
                                                                                        d := (bs [1]) }
                                                                                      x).fst
                                                                                  y).fst
                                                                              x).fst.n ==
                                                                        (addR (addR x y).fst x).fst.n &&
                                                                      ((addR
                                                                                (addR
                                                                                    (addR
                                                                                        { neg := false,
                                                                                          n := (bs []),
                                                                                          d := (bs [1]) }
                                                                                        x).fst
                                                                                    y).fst
                                                                                x).fst.d ==
                                                                          (addR (addR x y).fst x).fst.d &&
                                                                        true))) then
                                                              some (Ending.returned (Value.bool false))
                                                            else
                                                              bif szB (addR x y).fst.n && szB (addR x y).fst.d then
                                                                bif checkR (addR x y).fst != 0 then
                                                                  some (Ending.returned (Value.bool false))
                                                                else
                                                                  bif szB (subR x y).fst.n && szB (subR x y).fst.d then
                                                                    bif checkR (subR x y).fst != 0 then
                                                                      some (Ending.returned (Value.bool false))
                                                                    else
                                                                      bif szB (mulR x y).fst.n && szB (mulR x y).fst.d then
                                                                        bif checkR (mulR x y).fst != 0 then
                                                                          some (Ending.returned (Value.bool false))
                                                                        else
                                                                          bif
                                                                              ((subR x y).fst.neg == false &&
                                                                                  ((subR x y).fst.n == (bs []) &&
                                                                                    ((subR x y).fst.d == strOf [1] &&
                                                                                      true))) ==
                                                                                (x.neg == y.neg &&
                                                                                  (x.n == y.n && (x.d == y.d && true))) then
                                                                            bif
                                                                                x.neg == false &&
                                                                                  (x.n == (bs []) &&
                                                                                    (x.d == strOf [1] && true)) then
                                                                              some
                                                                                (Ending.returned
                                                                                  (Value.bool
                                                                                    (((mulR x y).fst.neg == false &&
                                                                                        ((mulR x y).fst.n ==
                                                                                            (bs []) &&
                                                                                          ((mulR x y).fst.d == strOf [1] &&
                                                                                            true))) ==
                                                                                      true)))
                                                                            else
                                                                              some
                                                                                (Ending.returned
                                                                                  (Value.bool
                                                                                    (((mulR x y).fst.neg == false &&
                                                                                        ((mulR x y).fst.n ==
                                                                                            (bs []) &&
                                                                                          ((mulR x y).fst.d == strOf [1] &&
                                                                                            true))) ==
                                                                                      (y.neg == false &&
                                                                                        (y.n == (bs []) &&
                                                                                          (y.d == strOf [1] && true))))))
                                                                          else some (Ending.returned (Value.bool false))
                                                                      else none
                                                                  else none
                                                              else none
                                                  else none
                                              else none
                                          else none
                                      else none
                                  else none
                              else none
                          else none
                        else none
                      else none
                    else none
                else some (Ending.returned (Value.bool true))
            else some (Ending.returned (Value.bool true))
        else none
    else none := by kernel_rfl

end Go.Proofs.Ytieapjdabffjcaa
