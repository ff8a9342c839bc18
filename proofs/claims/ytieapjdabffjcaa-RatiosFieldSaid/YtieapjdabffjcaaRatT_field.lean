/-
  What the symbolic executor shows of a law of package ratios.
-/
import Derived.Test.YtieapjdabffjcaaRatP
namespace Go.Proofs.Ytieapjdabffjcaa
open Go.RowKit Nm Go.SX

set_option maxRecDepth 100000 in
theorem T_field (x y z : Rt) : sxEnd Try.prog Rd.no lawCon.p 60 5 [.agg #[.bool x.neg, .string x.n, .string x.d], .agg #[.bool y.neg, .string y.n, .string y.d], .agg #[.bool z.neg, .string z.n, .string z.d]] =
    bif szB x.n && szB x.d then
      bif checkR x != 0 then some (Ending.returned (Value.bool true))
      else
        bif szB y.n && szB y.d then
          bif checkR y != 0 then some (Ending.returned (Value.bool true))
          else
            bif szB z.n && szB z.d then
              bif checkR z != 0 then some (Ending.returned (Value.bool true))
              else
                bif decide (((x.n.size : Nat) : Int) ≤ 20) then
                  bif !decide (((x.d.size : Nat) : Int) ≤ 20) then some (Ending.returned (Value.bool true))
                  else
                    bif decide (((y.n.size : Nat) : Int) ≤ 20) then
                      bif !decide (((y.d.size : Nat) : Int) ≤ 20) then some (Ending.returned (Value.bool true))
                      else
                        bif decide (((z.n.size : Nat) : Int) ≤ 20) then
                          bif !decide (((z.d.size : Nat) : Int) ≤ 20) then some (Ending.returned (Value.bool true))
                          else
                            bif szB x.n && szB x.d && (szB y.n && szB y.d) then
                              bif szB y.n && szB y.d && (szB x.n && szB x.d) then
                                bif szB (addR x y).fst.n && szB (addR x y).fst.d && (szB z.n && szB z.d) then
                                  bif szB y.n && szB y.d && (szB z.n && szB z.d) then
                                    bif szB x.n && szB x.d && (szB (addR y z).fst.n && szB (addR y z).fst.d) then
                                      bif (addR x y).snd != 0 then some (Ending.returned (Value.bool false))
                                      else
                                        bif (addR y x).snd != 0 then some (Ending.returned (Value.bool false))
                                        else
                                          bif (addR (addR x y).fst z).snd != 0 then
                                            some (Ending.returned (Value.bool false))
                                          else
                                            bif (addR y z).snd != 0 then some (Ending.returned (Value.bool false))
                                            else
                                              bif (addR x (addR y z).fst).snd != 0 then
                                                some (Ending.returned (Value.bool false))
                                              else
                                                bif
                                                    !((addR x y).fst.neg == (addR y x).fst.neg &&
                                                        ((addR x y).fst.n == (addR y x).fst.n &&
                                                          ((addR x y).fst.d == (addR y x).fst.d && true))) then
                                                  some (Ending.returned (Value.bool false))
                                                else
                                                  bif
                                                      !((addR (addR x y).fst z).fst.neg ==
                                                            (addR x (addR y z).fst).fst.neg &&
                                                          ((addR (addR x y).fst z).fst.n == (addR x (addR y z).fst).fst.n &&
                                                            ((addR (addR x y).fst z).fst.d ==
                                                                (addR x (addR y z).fst).fst.d &&
                                                              true))) then
                                                    some (Ending.returned (Value.bool false))
                                                  else
                                                    bif szB x.n && szB x.d && (szB y.n && szB y.d) then
                                                      bif szB y.n && szB y.d && (szB x.n && szB x.d) then
                                                        bif
                                                            szB (mulR x y).fst.n && szB (mulR x y).fst.d &&
                                                              (szB z.n && szB z.d) then
                                                          bif szB y.n && szB y.d && (szB z.n && szB z.d) then
                                                            bif
                                                                szB x.n && szB x.d &&
                                                                  (szB (mulR y z).fst.n && szB (mulR y z).fst.d) then
                                                              bif (mulR x y).snd != 0 then
                                                                some (Ending.returned (Value.bool false))
                                                              else
                                                                bif (mulR y x).snd != 0 then
                                                                  some (Ending.returned (Value.bool false))
                                                                else
                                                                  bif (mulR (mulR x y).fst z).snd != 0 then
                                                                    some (Ending.returned (Value.bool false))
                                                                  else
                                                                    bif (mulR y z).snd != 0 then
                                                                      some (Ending.returned (Value.bool false))
                                                                    else
                                                                      bif (mulR x (mulR y z).fst).snd != 0 then
                                                                        some (Ending.returned (Value.bool false))
                                                                      else
                                                                        bif
                                                                            !((mulR x y).fst.neg == (mulR y x).fst.neg &&
                                                                                ((mulR x y).fst.n == (mulR y x).fst.n &&
                                                                                  ((mulR x y).fst.d == (mulR y x).fst.d &&
                                                                                    true))) then
                                                                          some (Ending.returned (Value.bool false))
                                                                        else
                                                                          bif
                                                                              !((mulR (mulR x y).fst z).fst.neg ==
                                                                                    (mulR x (mulR y z).fst).fst.neg &&
                                                                                  ((mulR (mulR x y).fst z).fst.n ==
                                                                                      (mulR x (mulR y z).fst).fst.n &&
                                                                                    ((mulR (mulR x y).fst z).fst.d ==
                                                                                        (mulR x (mulR y z).fst).fst.d &&
                                                                                      true))) then
                                                                            some (Ending.returned (Value.bool false))
                                                                          else
                                                                            bif
                                                                                szB x.n && szB x.d &&
                                                                                  (szB (addR y z).fst.n &&
                                                                                    szB (addR y z).fst.d) then
                                                                              bif
                                                                                  szB x.n && szB x.d &&
                                                                                    (szB z.n && szB z.d) then
                                                                                bif
                                                                                    szB (mulR x y).fst.n &&
                                                                                        szB (mulR x y).fst.d &&
                                                                                      (szB (mulR x z).fst.n &&
                                                                                        szB (mulR x z).fst.d) then
                                                                                  bif
                                                                                      szB (addR x y).fst.n &&
                                                                                          szB (addR x y).fst.d &&
                                                                                        (szB y.n && szB y.d) then
                                                                                    bif
                                                                                        szB x.n && szB x.d &&
                                                                                          (szB (bs []) &&
                                                                                            szB (strOf [1])) then
                                                                                      bif
                                                                                          szB x.n && szB x.d &&
                                                                                            (szB (strOf [1]) &&
                                                                                              szB (strOf [1])) then
                                                                                        bif
                                                                                            (mulR x (addR y z).fst).snd !=
                                                                                              0 then
                                                                                          some
                                                                                            (Ending.returned
                                                                                              (Value.bool false))
                                                                                        else
                                                                                          bif (mulR x z).snd != 0 then
                                                                                            some
                                                                                              (Ending.returned
                                                                                                (Value.bool false))
                                                                                          else
                                                                                            bif
                                                                                                (addR (mulR x y).fst
                                                                                                      (mulR x z).fst).snd !=
                                                                                                  0 then
                                                                                              some
                                                                                                (Ending.returned
                                                                                                  (Value.bool false))
                                                                                            else
                                                                                              bif
                                                                                                  (subR (addR x y).fst
                                                                                                        y).snd !=
                                                                                                    0 then
                                                                                                some
                                                                                                  (Ending.returned
                                                                                                    (Value.bool false))
                                                                                              else
                                                                                                bif
                                                                                                    (addR x
                                                                                                          { neg := false,
                                                                                                            n :=
                                                                                                              (bs []),
                                                                                                            d :=
                                                                                                              strOf
                                                                                                                [1] }).snd !=
                                                                                                      0 then
                                                                                                  some
                                                                                                    (Ending.returned
                                                                                                      (Value.bool false))
                                                                                                else
                                                                                                  bif
                                                                                                      (mulR x
                                                                                                            { neg := false,
                                                                                                              n :=
                                                                                                                strOf [1],
                                                                                                              d :=
                                                                                                                strOf
                                                                                                                  [1] }).snd !=
                                                                                                        0 then
                                                                                                    some
                                                                                                      (Ending.returned
                                                                                                        (Value.bool false))
                                                                                                  else
                                                                                                    bif
                                                                                                        !((mulR x
                                                                                                                    (addR y
                                                                                                                        z).fst).fst.neg ==
                                                                                                              (addR
                                                                                                                    (mulR x
                                                                                                                        y).fst
                                                                                                                    (mulR x
                                                                                                                        z).fst).fst.neg &&
                                                                                                            ((mulR x
                                                                                                                      (addR
                                                                                                                          y
                                                                                                                          z).fst).fst.n ==
                                                                                                                (addR
                                                                                                                      (mulR
                                                                                                                          x
                                                                                                                          y).fst
                                                                                                                      (mulR
                                                                                                                          x
                                                                                                                          z).fst).fst.n &&
                                                                                                              ((mulR x
                                                                                                                        (addR
                                                                                                                            y
                                                                                                                            z).fst).fst.d ==
                                                                                                                  (addR
                                                                                                                        (mulR
                                                                                                                            x
                                                                                                                            y).fst
                                                                                                                        (mulR
                                                                                                                            x
                                                                                                                            z).fst).fst.d &&
                                                                                                                true))) then
                                                                                                      some
                                                                                                        (Ending.returned
                                                                                                          (Value.bool
                                                                                                            false))
                                                                                                    else
                                                                                                      bif
                                                                                                          !((subR
                                                                                                                      (addR
                                                                                                                          x
                                                                                                                          y).fst
                                                                                                                      y).fst.neg ==
                                                                                                                x.neg &&
                                                                                                              ((subR
                                                                                                                        (addR
                                                                                                                            x
                                                                                                                            y).fst
                                                                                                                        y).fst.n ==
                                                                                                                  x.n &&
                                                                                                                ((subR
                                                                                                                          (addR
                                                                                                                              x
                                                                                                                              y).fst
                                                                                                                          y).fst.d ==
                                                                                                                    x.d &&
                                                                                                                  true))) then
                                                                                                        some
                                                                                                          (Ending.returned
                                                                                                            (Value.bool
                                                                                                              false))
                                                                                                      else
                                                                                                        bif
                                                                                                            !((addR x
                                                                                                                        {
                                                                                                                          neg :=
                                                                                                                            false,
                                                                                                                          n :=
                                                                                                                            (bs []),
                                                                                                                          d :=
                                                                                                                            strOf
                                                                                                                              [1] }).fst.neg ==
                                                                                                                  x.neg &&
                                                                                                                ((addR x
                                                                                                                          {
                                                                                                                            neg :=
                                                                                                                              false,
                                                                                                                            n :=
                                                                                                                              (bs []),
                                                                                                                            d :=
                                                                                                                              strOf
                                                                                                                                [1] }).fst.n ==
                                                                                                                    x.n &&
                                                                                                                  ((addR x
                                                                                                                            {
                                                                                                                              neg :=
                                                                                                                                false,
                                                                                                                              n :=
                                                                                                                                (bs []),
                                                                                                                              d :=
                                                                                                                                strOf
                                                                                                                                  [1] }).fst.d ==
                                                                                                                      x.d &&
                                                                                                                    true))) then
                                                                                                          some
                                                                                                            (Ending.returned
                                                                                                              (Value.bool
                                                                                                                false))
                                                                                                        else
                                                                                                          bif
                                                                                                              !((mulR x
                                                                                                                          {
                                                                                                                            neg :=
                                                                                                                              false,
                                                                                                                            n :=
                                                                                                                              strOf
                                                                                                                                [1],
                                                                                                                            d :=
                                                                                                                              strOf
                                                                                                                                [1] }).fst.neg ==
                                                                                                                    x.neg &&
                                                                                                                  ((mulR x
                                                                                                                            {
                                                                                                                              neg :=
                                                                                                                                false,
                                                                                                                              n :=
                                                                                                                                strOf
                                                                                                                                  [1],
                                                                                                                              d :=
                                                                                                                                strOf
                                                                                                                                  [1] }).fst.n ==
                                                                                                                      x.n &&
                                                                                                                    ((mulR x
                                                                                                                              {
                                                                                                                                neg :=
                                                                                                                                  false,
                                                                                                                                n :=
                                                                                                                                  strOf
                                                                                                                                    [1],
                                                                                                                                d :=
                                                                                                                                  strOf
                                                                                                                                    [1] }).fst.d ==
                                                                                                                        x.d &&
                                                                                                                      true))) then
                                                                                                            some
                                                                                                              (Ending.returned
                                                                                                                (Value.bool
                                                                                                                  false))
                                                                                                          else
                                                                                                            bif
                                                                                                                y.neg ==
                                                                                                                    false &&
                                                                                                                  (y.n ==
                                                                                                                      (bs []) &&
                                                                                                                    (y.d ==
                                                                                                                        strOf
                                                                                                                          [1] &&
                                                                                                                      true)) then
                                                                                                              bif
                                                                                                                  szB x.n &&
                                                                                                                      szB
                                                                                                                        x.d &&
                                                                                                                    (szB
                                                                                                                        y.n &&
                                                                                                                      szB
                                                                                                                        y.d) then
                                                                                                                some
                                                                                                                  (Ending.returned
                                                                                                                    (Value.bool
                                                                                                                      ((divR
                                                                                                                            x
                                                                                                                            y).snd ==
                                                                                                                        71)))
                                                                                                              else none
                                                                                                            else
                                                                                                              bif
                                                                                                                  szB
                                                                                                                        (mulR
                                                                                                                              x
                                                                                                                              y).fst.n &&
                                                                                                                      szB
                                                                                                                        (mulR
                                                                                                                              x
                                                                                                                              y).fst.d &&
                                                                                                                    (szB
                                                                                                                        y.n &&
                                                                                                                      szB
                                                                                                                        y.d) then
                                                                                                                bif
                                                                                                                    (divR
                                                                                                                          (mulR
                                                                                                                              x
                                                                                                                              y).fst
                                                                                                                          y).snd ==
                                                                                                                      0 then
                                                                                                                  some
                                                                                                                    (Ending.returned
                                                                                                                      (Value.bool
                                                                                                                        ((divR
                                                                                                                                  (mulR
                                                                                                                                      x
                                                                                                                                      y).fst
                                                                                                                                  y).fst.neg ==
                                                                                                                            x.neg &&
                                                                                                                          ((divR
                                                                                                                                    (mulR
                                                                                                                                        x
                                                                                                                                        y).fst
                                                                                                                                    y).fst.n ==
                                                                                                                              x.n &&
                                                                                                                            ((divR
                                                                                                                                      (mulR
                                                                                                                                          x
                                                                                                                                          y).fst
                                                                                                                                      y).fst.d ==
                                                                                                                                x.d &&
                                                                                                                              true)))))
                                                                                                                else
                                                                                                                  some
                                                                                                                    (Ending.returned
                                                                                                                      (Value.bool
                                                                                                                        false))
                                                                                                              else none
                                                                                      else none
                                                                                    else none
                                                                                  else none
                                                                                else none
                                                                              else none
                                                                            else none
                                                            else none
                                                          else none
                                                        else none
                                                      else none
                                                    else none
                                    else none
                                  else none
                                else none
                              else none
                            else none
                        else some (Ending.returned (Value.bool true))
                    else some (Ending.returned (Value.bool true))
                else some (Ending.returned (Value.bool true))
            else none
        else none
    else none := by kernel_rfl

end Go.Proofs.Ytieapjdabffjcaa
