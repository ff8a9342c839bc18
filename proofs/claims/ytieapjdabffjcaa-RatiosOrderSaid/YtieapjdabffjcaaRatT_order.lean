/-
  What the symbolic executor shows of a law of package ratios.
-/
import Derived.Test.YtieapjdabffjcaaRatP
namespace Go.Proofs.Ytieapjdabffjcaa
open Go.RowKit Nm Go.SX

set_option maxRecDepth 100000 in
theorem T_order (x y z : Rt) : sxEnd Try.prog Rd.no lawCon.p 60 6 [.agg #[.bool x.neg, .string x.n, .string x.d], .agg #[.bool y.neg, .string y.n, .string y.d], .agg #[.bool z.neg, .string z.n, .string z.d]] =
    bif szB x.n && szB x.d then
      bif checkR x != 0 then some (Ending.returned (Value.bool true))
      else
        bif szB y.n && szB y.d then
          bif checkR y != 0 then some (Ending.returned (Value.bool true))
          else
            bif szB z.n && szB z.d then
              bif checkR z != 0 then some (Ending.returned (Value.bool true))
              else
                bif decide (((x.n.size : Nat) : Int) ≤ 20) then
                  bif !decide (((x.d.size : Nat) : Int) ≤ 20) then some (Ending.returned (Value.bool true))
                  else
                    bif decide (((y.n.size : Nat) : Int) ≤ 20) then
                      bif !decide (((y.d.size : Nat) : Int) ≤ 20) then some (Ending.returned (Value.bool true))
                      else
                        bif decide (((z.n.size : Nat) : Int) ≤ 20) then
                          bif !decide (((z.d.size : Nat) : Int) ≤ 20) then some (Ending.returned (Value.bool true))
                          else
                            bif szB x.n && szB x.d && (szB y.n && szB y.d) then
                              bif szB y.n && szB y.d && (szB x.n && szB x.d) then
                                bif szB y.n && szB y.d && (szB z.n && szB z.d) then
                                  bif szB x.n && szB x.d && (szB z.n && szB z.d) then
                                    bif szB y.n && szB y.d && (szB x.n && szB x.d) then
                                      bif szB x.n && szB x.d && (szB z.n && szB z.d) then
                                        bif szB y.n && szB y.d && (szB z.n && szB z.d) then
                                          bif
                                              szB (addR x z).fst.n && szB (addR x z).fst.d &&
                                                (szB (addR y z).fst.n && szB (addR y z).fst.d) then
                                            bif (cmpR x y).snd != 0 then some (Ending.returned (Value.bool false))
                                            else
                                              bif (cmpR y x).snd != 0 then some (Ending.returned (Value.bool false))
                                              else
                                                bif (cmpR y z).snd != 0 then some (Ending.returned (Value.bool false))
                                                else
                                                  bif (cmpR x z).snd != 0 then some (Ending.returned (Value.bool false))
                                                  else
                                                    bif (subR y x).snd != 0 then some (Ending.returned (Value.bool false))
                                                    else
                                                      bif (addR x z).snd != 0 then some (Ending.returned (Value.bool false))
                                                      else
                                                        bif (addR y z).snd != 0 then
                                                          some (Ending.returned (Value.bool false))
                                                        else
                                                          bif (cmpR (addR x z).fst (addR y z).fst).snd != 0 then
                                                            some (Ending.returned (Value.bool false))
                                                          else
                                                            bif decide ((cmpR x y).fst < -1) then
                                                              some (Ending.returned (Value.bool false))
                                                            else
                                                              bif decide ((cmpR x y).fst > 1) then
                                                                some (Ending.returned (Value.bool false))
                                                              else
                                                                bif
                                                                    (cmpR x y).fst !=
                                                                      IntKind.i64.wrap (0 - (cmpR y x).fst) then
                                                                  some (Ending.returned (Value.bool false))
                                                                else
                                                                  bif
                                                                      !((cmpR x y).fst == 0) ==
                                                                          (x.neg == y.neg &&
                                                                            (x.n == y.n && (x.d == y.d && true))) then
                                                                    some (Ending.returned (Value.bool false))
                                                                  else
                                                                    bif decide ((cmpR x y).fst ≤ 0) then
                                                                      bif decide ((cmpR y z).fst ≤ 0) then
                                                                        bif decide ((cmpR x z).fst > 0) then
                                                                          some (Ending.returned (Value.bool false))
                                                                        else
                                                                          bif
                                                                              (cmpR (addR x z).fst (addR y z).fst).fst !=
                                                                                (cmpR x y).fst then
                                                                            some (Ending.returned (Value.bool false))
                                                                          else
                                                                            bif !(subR y x).fst.neg then
                                                                              bif
                                                                                  !decide ((cmpR x y).fst < 0) ==
                                                                                      !(subR y x).fst.n.toList ==
                                                                                          (bs []).toList then
                                                                                some (Ending.returned (Value.bool false))
                                                                              else
                                                                                bif z.neg then
                                                                                  some (Ending.returned (Value.bool true))
                                                                                else
                                                                                  bif
                                                                                      z.n.toList ==
                                                                                        (bs []).toList then
                                                                                    some (Ending.returned (Value.bool true))
                                                                                  else
                                                                                    bif
                                                                                        szB x.n && szB x.d &&
                                                                                          (szB z.n && szB z.d) then
                                                                                      bif
                                                                                          szB y.n && szB y.d &&
                                                                                            (szB z.n && szB z.d) then
                                                                                        bif
                                                                                            szB (mulR x z).fst.n &&
                                                                                                szB (mulR x z).fst.d &&
                                                                                              (szB (mulR y z).fst.n &&
                                                                                                szB (mulR y z).fst.d) then
                                                                                          bif (mulR x z).snd == 0 then
                                                                                            bif (mulR y z).snd == 0 then
                                                                                              bif
                                                                                                  (cmpR (mulR x z).fst
                                                                                                        (mulR y
                                                                                                            z).fst).snd ==
                                                                                                    0 then
                                                                                                some
                                                                                                  (Ending.returned
                                                                                                    (Value.bool
                                                                                                      ((cmpR (mulR x z).fst
                                                                                                            (mulR y
                                                                                                                z).fst).fst ==
                                                                                                        (cmpR x y).fst)))
                                                                                              else
                                                                                                some
                                                                                                  (Ending.returned
                                                                                                    (Value.bool false))
                                                                                            else
                                                                                              some
                                                                                                (Ending.returned
                                                                                                  (Value.bool false))
                                                                                          else
                                                                                            some
                                                                                              (Ending.returned
                                                                                                (Value.bool false))
                                                                                        else none
                                                                                      else none
                                                                                    else none
                                                                            else
                                                                              bif !decide ((cmpR x y).fst < 0) == false then
                                                                                some (Ending.returned (Value.bool false))
                                                                              else
                                                                                bif z.neg then
                                                                                  some (Ending.returned (Value.bool true))
                                                                                else
                                                                                  bif
                                                                                      z.n.toList ==
                                                                                        (bs []).toList then
                                                                                    some (Ending.returned (Value.bool true))
                                                                                  else
                                                                                    bif
                                                                                        szB x.n && szB x.d &&
                                                                                          (szB z.n && szB z.d) then
                                                                                      bif
                                                                                          szB y.n && szB y.d &&
                                                                                            (szB z.n && szB z.d) then
                                                                                        bif
                                                                                            szB (mulR x z).fst.n &&
                                                                                                szB (mulR x z).fst.d &&
                                                                                              (szB (mulR y z).fst.n &&
                                                                                                szB (mulR y z).fst.d) then
                                                                                          bif (mulR x z).snd == 0 then
                                                                                            bif (mulR y z).snd == 0 then
                                                                                              bif
                                                                                                  (cmpR (mulR x z).fst
                                                                                                        (mulR y
                                                                                                            z).fst).snd ==
                                                                                                    0 then
                                                                                                some
                                                                                                  (Ending.returned
                                                                                                    (Value.bool
                                                                                                      ((cmpR (mulR x z).fst
                                                                                                            (mulR y
                                                                                                                z).fst).fst ==
                                                                                                        (cmpR x y).fst)))
                                                                                              else
                                                                                                some
                                                                                                  (Ending.returned
                                                                                                    (Value.bool false))
                                                                                            else
                                                                                              some
                                                                                                (Ending.returned
                                                                                                  (Value.bool false))
                                                                                          else
                                                                                            some
                                                                                              (Ending.returned
                                                                                                (Value.bool false))
                                                                                        else none
                                                                                      else none
                                                                                    else none
                                                                      else
                                                                        bif
                                                                            (cmpR (addR x z).fst (addR y z).fst).fst !=
                                                                              (cmpR x y).fst then
                                                                          some (Ending.returned (Value.bool false))
                                                                        else
                                                                          bif !(subR y x).fst.neg then
                                                                            bif
                                                                                !decide ((cmpR x y).fst < 0) ==
                                                                                    !(subR y x).fst.n.toList ==
                                                                                        (bs []).toList then
                                                                              some (Ending.returned (Value.bool false))
                                                                            else
                                                                              bif z.neg then
                                                                                some (Ending.returned (Value.bool true))
                                                                              else
                                                                                bif
                                                                                    z.n.toList ==
                                                                                      (bs []).toList then
                                                                                  some (Ending.returned (Value.bool true))
                                                                                else
                                                                                  bif
                                                                                      szB x.n && szB x.d &&
                                                                                        (szB z.n && szB z.d) then
                                                                                    bif
                                                                                        szB y.n && szB y.d &&
                                                                                          (szB z.n && szB z.d) then
                                                                                      bif
                                                                                          szB (mulR x z).fst.n &&
                                                                                              szB (mulR x z).fst.d &&
                                                                                            (szB (mulR y z).fst.n &&
                                                                                              szB (mulR y z).fst.d) then
                                                                                        bif (mulR x z).snd == 0 then
                                                                                          bif (mulR y z).snd == 0 then
                                                                                            bif
                                                                                                (cmpR (mulR x z).fst
                                                                                                      (mulR y z).fst).snd ==
                                                                                                  0 then
                                                                                              some
                                                                                                (Ending.returned
                                                                                                  (Value.bool
                                                                                                    ((cmpR (mulR x z).fst
                                                                                                          (mulR y
                                                                                                              z).fst).fst ==
                                                                                                      (cmpR x y).fst)))
                                                                                            else
                                                                                              some
                                                                                                (Ending.returned
                                                                                                  (Value.bool false))
                                                                                          else
                                                                                            some
                                                                                              (Ending.returned
                                                                                                (Value.bool false))
                                                                                        else
                                                                                          some
                                                                                            (Ending.returned
                                                                                              (Value.bool false))
                                                                                      else none
                                                                                    else none
                                                                                  else none
                                                                          else
                                                                            bif !decide ((cmpR x y).fst < 0) == false then
                                                                              some (Ending.returned (Value.bool false))
                                                                            else
                                                                              bif z.neg then
                                                                                some (Ending.returned (Value.bool true))
                                                                              else
                                                                                bif
                                                                                    z.n.toList ==
                                                                                      (bs []).toList then
                                                                                  some (Ending.returned (Value.bool true))
                                                                                else
                                                                                  bif
                                                                                      szB x.n && szB x.d &&
                                                                                        (szB z.n && szB z.d) then
                                                                                    bif
                                                                                        szB y.n && szB y.d &&
                                                                                          (szB z.n && szB z.d) then
                                                                                      bif
                                                                                          szB (mulR x z).fst.n &&
                                                                                              szB (mulR x z).fst.d &&
                                                                                            (szB (mulR y z).fst.n &&
                                                                                              szB (mulR y z).fst.d) then
                                                                                        bif (mulR x z).snd == 0 then
                                                                                          bif (mulR y z).snd == 0 then
                                                                                            bif
                                                                                                (cmpR (mulR x z).fst
                                                                                                      (mulR y z).fst).snd ==
                                                                                                  0 then
                                                                                              some
                                                                                                (Ending.returned
                                                                                                  (Value.bool
                                                                                                    ((cmpR (mulR x z).fst
                                                                                                          (mulR y
                                                                                                              z).fst).fst ==
                                                                                                      (cmpR x y).fst)))
                                                                                            else
                                                                                              some
                                                                                                (Ending.returned
                                                                                                  (Value.bool false))
                                                                                          else
                                                                                            some
                                                                                              (Ending.returned
                                                                                                (Value.bool false))
                                                                                        else
                                                                                          some
                                                                                            (Ending.returned
                                                                                              (Value.bool false))
                                                                                      else none
                                                                                    else none
                                                                                  else none
                                                                    else
                                                                      bif
                                                                          (cmpR (addR x z).fst (addR y z).fst).fst !=
                                                                            (cmpR x y).fst then
                                                                        some (Ending.returned (Value.bool false))
                                                                      else
                                                                        bif !(subR y x).fst.neg then
                                                                          bif
                                                                              !decide ((cmpR x y).fst < 0) ==
                                                                                  !(subR y x).fst.n.toList ==
                                                                                      (bs []).toList then
                                                                            some (Ending.returned (Value.bool false))
                                                                          else
                                                                            bif z.neg then
                                                                              some (Ending.returned (Value.bool true))
                                                                            else
                                                                              bif z.n.toList == (bs []).toList then
                                                                                some (Ending.returned (Value.bool true))
                                                                              else
                                                                                bif
                                                                                    szB x.n && szB x.d &&
                                                                                      (szB z.n && szB z.d) then
                                                                                  bif
                                                                                      szB y.n && szB y.d &&
                                                                                        (szB z.n && szB z.d) then
                                                                                    bif
                                                                                        szB (mulR x z).fst.n &&
                                                                                            szB (mulR x z).fst.d &&
                                                                                          (szB (mulR y z).fst.n &&
                                                                                            szB (mulR y z).fst.d) then
                                                                                      bif (mulR x z).snd == 0 then
                                                                                        bif (mulR y z).snd == 0 then
                                                                                          bif
                                                                                              (cmpR (mulR x z).fst
                                                                                                    (mulR y z).fst).snd ==
                                                                                                0 then
                                                                                            some
                                                                                              (Ending.returned
                                                                                                (Value.bool
                                                                                                  ((cmpR (mulR x z).fst
                                                                                                        (mulR y
                                                                                                            z).fst).fst ==
                                                                                                    (cmpR x y).fst)))
                                                                                          else
                                                                                            some
                                                                                              (Ending.returned
                                                                                                (Value.bool false))
                                                                                        else
                                                                                          some
                                                                                            (Ending.returned
                                                                                              (Value.bool false))
                                                                                      else
                                                                                        some
                                                                                          (Ending.returned
                                                                                            (Value.bool false))
                                                                                    else none
                                                                                  else none
                                                                                else none
                                                                        else
                                                                          bif !decide ((cmpR x y).fst < 0) == false then
                                                                            some (Ending.returned (Value.bool false))
                                                                          else
                                                                            bif z.neg then
                                                                              some (Ending.returned (Value.bool true))
                                                                            else
                                                                              bif z.n.toList == (bs []).toList then
                                                                                some (Ending.returned (Value.bool true))
                                                                              else
                                                                                bif
                                                                                    szB x.n && szB x.d &&
                                                                                      (szB z.n && szB z.d) then
                                                                                  bif
                                                                                      szB y.n && szB y.d &&
                                                                                        (szB z.n && szB z.d) then
                                                                                    bif
                                                                                        szB (mulR x z).fst.n &&
                                                                                            szB (mulR x z).fst.d &&
                                                                                          (szB (mulR y z).fst.n &&
                                                                                            szB (mulR y z).fst.d) then
                                                                                      bif (mulR x z).snd == 0 then
                                                                                        bif (mulR y z).snd == 0 then
                                                                                          bif
                                                                                              (cmpR (mulR x z).fst
                                                                                                    (mulR y z).fst).snd ==
                                                                                                0 then
                                                                                            some
                                                                                              (Ending.returned
                                                                                                (Value.bool
                                                                                                  ((cmpR (mulR x z).fst
                                                                                                        (mulR y
                                                                                                            z).fst).fst ==
                                                                                                    (cmpR x y).fst)))
                                                                                          else
                                                                                            some
                                                                                              (Ending.returned
                                                                                                (Value.bool false))
                                                                                        else
                                                                                          some
                                                                                            (Ending.returned
                                                                                              (Value.bool false))
                                                                                      else
                                                                                        some
                                                                                          (Ending.returned
                                                                                            (Value.bool false))
                                                                                    else none
                                                                                  else none
                                                                                else none
                                          else none
                                        else none
                                      else none
                                    else none
                                  else none
                                else none
                              else none
                            else none
                        else some (Ending.returned (Value.bool true))
                    else some (Ending.returned (Value.bool true))
                else some (Ending.returned (Value.bool true))
            else none
        else none
    else none := by kernel_rfl

end Go.Proofs.Ytieapjdabffjcaa
