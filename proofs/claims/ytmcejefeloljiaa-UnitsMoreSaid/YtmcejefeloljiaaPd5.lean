/-
  What the loops of Resolve come to, a round at a time.
-/
import Derived.Test.YtmcejefeloljiaaPd4
namespace Go.Proofs.Ytmcejefeloljiaa
open Go.RowKit Nm Go.SX

set_option maxRecDepth 100000 in
theorem T_reA (l : List unitT.den) (k : Nat) : sxB Try.prog noL uCon 60 (36, 0) (loopAt Try.prog 36 5) (reAS l k) reAN =
    bif decide ((↑k : Int) < (↑l.length : Int)) then
      bif inB (↑k : Int) l.length then
        bif lenB (l) then
          bif findF (l.getD (↑k : Int).toNat unitT.dflt).fst (l) != (↑k : Int) then
            some
              (Ex.ret,
                {
                  t := anys 2 ++ [SV.val (Value.slice none 0 0), SV.val (Value.int IntKind.i64 111)] ++ anys 98,
                  m :=
                    [Blk.cells
                        [SV.dsl
                            unitT
                            l]
                        38 false],
                  d := [] })
          else
            some
              (Ex.normal,
                {
                  t := anys 1 ++ [SV.ptr 0 0, SV.val (Value.slice none 0 0)] ++ anys 1 ++ [SV.clo (Fn.func 73) [] [SV.ptr 0 0]] ++ anys 11 ++ [SV.dsl unitT l, SV.val (Value.int IntKind.i64 (↑l.length : Int)), SV.val (Value.int IntKind.i64 (IntKind.i64.wrap ((↑k : Int) + 1)))] ++ anys 83,
                  m :=
                    [Blk.cells
                        [SV.dsl
                            unitT
                            l]
                        38 false],
                  d := [] })
        else none
      else none
    else
      some
        (Ex.exit 0,
          {
            t := anys 1 ++ [SV.ptr 0 0, SV.val (Value.slice none 0 0)] ++ anys 1 ++ [SV.clo (Fn.func 73) [] [SV.ptr 0 0]] ++ anys 97,
            m :=
              [Blk.cells
                  [SV.dsl
                      unitT
                      l]
                  38 false],
            d := [] }) := by kernel_rfl
set_option maxRecDepth 100000 in
theorem T_reB (l x : List unitT.den) (k : Nat) : sxB Try.prog noL uCon 60 (36, 0) (loopAt Try.prog 36 11) (reBS l x k) reBN =
    bif decide ((↑k : Int) < (↑l.length : Int)) then
      bif inB (↑k : Int) l.length then
        bif ByteArray.toList (l.getD (↑k : Int).toNat unitT.dflt).snd.fst == (bs []).toList then
          bif (l.getD (↑k : Int).toNat unitT.dflt).snd.snd.fst == 0 then
            bif !(l.getD (↑k : Int).toNat unitT.dflt).snd.snd.snd.fst == 0 then
              some
                (Ex.ret,
                  {
                    t := anys 2 ++ [SV.val (Value.slice none 0 0), SV.val (Value.int IntKind.i64 90)] ++ anys 98,
                    m :=
                      [Blk.cells
                          [SV.dsl
                              unitT
                              l]
                          38 false],
                    d := [] })
            else
              bif !ByteArray.toList (l.getD (↑k : Int).toNat unitT.dflt).snd.fst == (bs []).toList then
                bif lenB (l) then
                  bif decide (findF (l.getD (↑k : Int).toNat unitT.dflt).snd.fst (l) < 0) then
                    some
                      (Ex.ret,
                        {
                          t := anys 2 ++ [SV.val (Value.slice none 0 0), SV.val (Value.int IntKind.i64 110)] ++ anys 98,
                          m :=
                            [Blk.cells
                                [SV.dsl
                                    unitT
                                    l]
                                38 false],
                          d := [] })
                  else
                    bif decide (findF (l.getD (↑k : Int).toNat unitT.dflt).snd.fst (l) ≥ (↑k : Int)) then
                      some
                        (Ex.ret,
                          {
                            t := anys 2 ++ [SV.val (Value.slice none 0 0), SV.val (Value.int IntKind.i64 110)] ++ anys 98,
                            m :=
                              [Blk.cells
                                  [SV.dsl
                                      unitT
                                      l]
                                  38 false],
                            d := [] })
                    else
                      bif
                          inI (l.getD (↑k : Int).toNat unitT.dflt).snd.snd.fst &&
                            inI (l.getD (↑k : Int).toNat unitT.dflt).snd.snd.snd.fst then
                        bif
                            (newR (l.getD (↑k : Int).toNat unitT.dflt).snd.snd.fst
                                  (l.getD (↑k : Int).toNat unitT.dflt).snd.snd.snd.fst).snd !=
                              0 then
                          some
                            (Ex.ret,
                              {
                                t := anys 2 ++ [SV.val (Value.slice none 0 0), SV.val (Value.int IntKind.i64 (newR (l.getD (↑k : Int).toNat unitT.dflt).snd.snd.fst (l.getD (↑k : Int).toNat unitT.dflt).snd.snd.snd.fst).snd)] ++ anys 98,
                                m :=
                                  [Blk.cells
                                      [SV.dsl
                                          unitT
                                          l]
                                      38 false],
                                d := [] })
                        else
                          bif inB (findF (l.getD (↑k : Int).toNat unitT.dflt).snd.fst (l)) x.length then
                            bif inB (findF (l.getD (↑k : Int).toNat unitT.dflt).snd.fst (l)) x.length then
                              bif
                                  szB
                                        (x.getD (findF (l.getD (↑k : Int).toNat unitT.dflt).snd.fst (l)).toNat
                                                          unitT.dflt).snd.snd.snd.snd.snd.fst.snd.fst &&
                                      szB
                                        (x.getD (findF (l.getD (↑k : Int).toNat unitT.dflt).snd.fst (l)).toNat
                                                            unitT.dflt).snd.snd.snd.snd.snd.fst.snd.snd.fst &&
                                    (szB
                                        (newR (l.getD (↑k : Int).toNat unitT.dflt).snd.snd.fst
                                              (l.getD (↑k : Int).toNat unitT.dflt).snd.snd.snd.fst).fst.n &&
                                      szB
                                        (newR (l.getD (↑k : Int).toNat unitT.dflt).snd.snd.fst
                                              (l.getD (↑k : Int).toNat unitT.dflt).snd.snd.snd.fst).fst.d) then
                                bif
                                    (mulR
                                          {
                                            neg :=
                                              (x.getD
                                                              (findF (l.getD (↑k : Int).toNat unitT.dflt).snd.fst
                                                                  (l)).toNat
                                                              unitT.dflt).snd.snd.snd.snd.snd.fst.fst,
                                            n :=
                                              (x.getD
                                                                (findF (l.getD (↑k : Int).toNat unitT.dflt).snd.fst
                                                                    (l)).toNat
                                                                unitT.dflt).snd.snd.snd.snd.snd.fst.snd.fst,
                                            d :=
                                              (x.getD
                                                                  (findF (l.getD (↑k : Int).toNat unitT.dflt).snd.fst
                                                                      (l)).toNat
                                                                  unitT.dflt).snd.snd.snd.snd.snd.fst.snd.snd.fst }
                                          (newR (l.getD (↑k : Int).toNat unitT.dflt).snd.snd.fst
                                              (l.getD (↑k : Int).toNat unitT.dflt).snd.snd.snd.fst).fst).snd !=
                                      0 then
                                  bif
                                      (mulR
                                            {
                                              neg :=
                                                (x.getD
                                                                (findF (l.getD (↑k : Int).toNat unitT.dflt).snd.fst
                                                                    (l)).toNat
                                                                unitT.dflt).snd.snd.snd.snd.snd.fst.fst,
                                              n :=
                                                (x.getD
                                                                  (findF (l.getD (↑k : Int).toNat unitT.dflt).snd.fst
                                                                      (l)).toNat
                                                                  unitT.dflt).snd.snd.snd.snd.snd.fst.snd.fst,
                                              d :=
                                                (x.getD
                                                                    (findF (l.getD (↑k : Int).toNat unitT.dflt).snd.fst
                                                                        (l)).toNat
                                                                    unitT.dflt).snd.snd.snd.snd.snd.fst.snd.snd.fst }
                                            (newR (l.getD (↑k : Int).toNat unitT.dflt).snd.snd.fst
                                                (l.getD (↑k : Int).toNat unitT.dflt).snd.snd.snd.fst).fst).snd !=
                                        0 then
                                    some
                                      (Ex.ret,
                                        {
                                          t := anys 2 ++ [SV.val (Value.slice none 0 0), SV.val (Value.int IntKind.i64 (mulR { neg := (x.getD (findF (l.getD (↑k : Int).toNat unitT.dflt).snd.fst (l)).toNat unitT.dflt).snd.snd.snd.snd.snd.fst.fst, n := (x.getD (findF (l.getD (↑k : Int).toNat unitT.dflt).snd.fst (l)).toNat unitT.dflt).snd.snd.snd.snd.snd.fst.snd.fst, d := (x.getD (findF (l.getD (↑k : Int).toNat unitT.dflt).snd.fst (l)).toNat unitT.dflt).snd.snd.snd.snd.snd.fst.snd.snd.fst } (newR (l.getD (↑k : Int).toNat unitT.dflt).snd.snd.fst (l.getD (↑k : Int).toNat unitT.dflt).snd.snd.snd.fst).fst).snd)] ++ anys 98,
                                          m :=
                                            [Blk.cells
                                                [SV.dsl
                                                    unitT
                                                    l]
                                                38 false],
                                          d := [] })
                                  else
                                    bif
                                        decide
                                          ((x).length +
                                              [((l.getD (↑k : Int).toNat unitT.dflt).fst,
                                                    (l.getD (↑k : Int).toNat unitT.dflt).snd.fst,
                                                    (l.getD (↑k : Int).toNat unitT.dflt).snd.snd.fst,
                                                    (l.getD (↑k : Int).toNat unitT.dflt).snd.snd.snd.fst,
                                                    (x.getD
                                                                (findF (l.getD (↑k : Int).toNat unitT.dflt).snd.fst
                                                                    (l)).toNat
                                                                unitT.dflt).snd.snd.snd.snd.fst,
                                                    ((mulR
                                                            {
                                                              neg :=
                                                                (x.getD
                                                                                (findF
                                                                                    (l.getD (↑k : Int).toNat
                                                                                          unitT.dflt).snd.fst
                                                                                    (l)).toNat
                                                                                unitT.dflt).snd.snd.snd.snd.snd.fst.fst,
                                                              n :=
                                                                (x.getD
                                                                                  (findF
                                                                                      (l.getD (↑k : Int).toNat
                                                                                            unitT.dflt).snd.fst
                                                                                      (l)).toNat
                                                                                  unitT.dflt).snd.snd.snd.snd.snd.fst.snd.fst,
                                                              d :=
                                                                (x.getD
                                                                                    (findF
                                                                                        (l.getD (↑k : Int).toNat
                                                                                              unitT.dflt).snd.fst
                                                                                        (l)).toNat
                                                                                    unitT.dflt).snd.snd.snd.snd.snd.fst.snd.snd.fst }
                                                            (newR (l.getD (↑k : Int).toNat unitT.dflt).snd.snd.fst
                                                                (l.getD (↑k : Int).toNat
                                                                          unitT.dflt).snd.snd.snd.fst).fst).fst.neg,
                                                      (mulR
                                                            {
                                                              neg :=
                                                                (x.getD
                                                                                (findF
                                                                                    (l.getD (↑k : Int).toNat
                                                                                          unitT.dflt).snd.fst
                                                                                    (l)).toNat
                                                                                unitT.dflt).snd.snd.snd.snd.snd.fst.fst,
                                                              n :=
                                                                (x.getD
                                                                                  (findF
                                                                                      (l.getD (↑k : Int).toNat
                                                                                            unitT.dflt).snd.fst
                                                                                      (l)).toNat
                                                                                  unitT.dflt).snd.snd.snd.snd.snd.fst.snd.fst,
                                                              d :=
                                                                (x.getD
                                                                                    (findF
                                                                                        (l.getD (↑k : Int).toNat
                                                                                              unitT.dflt).snd.fst
                                                                                        (l)).toNat
                                                                                    unitT.dflt).snd.snd.snd.snd.snd.fst.snd.snd.fst }
                                                            (newR (l.getD (↑k : Int).toNat unitT.dflt).snd.snd.fst
                                                                (l.getD (↑k : Int).toNat
                                                                          unitT.dflt).snd.snd.snd.fst).fst).fst.n,
                                                      (mulR
                                                            {
                                                              neg :=
                                                                (x.getD
                                                                                (findF
                                                                                    (l.getD (↑k : Int).toNat
                                                                                          unitT.dflt).snd.fst
                                                                                    (l)).toNat
                                                                                unitT.dflt).snd.snd.snd.snd.snd.fst.fst,
                                                              n :=
                                                                (x.getD
                                                                                  (findF
                                                                                      (l.getD (↑k : Int).toNat
                                                                                            unitT.dflt).snd.fst
                                                                                      (l)).toNat
                                                                                  unitT.dflt).snd.snd.snd.snd.snd.fst.snd.fst,
                                                              d :=
                                                                (x.getD
                                                                                    (findF
                                                                                        (l.getD (↑k : Int).toNat
                                                                                              unitT.dflt).snd.fst
                                                                                        (l)).toNat
                                                                                    unitT.dflt).snd.snd.snd.snd.snd.fst.snd.snd.fst }
                                                            (newR (l.getD (↑k : Int).toNat unitT.dflt).snd.snd.fst
                                                                (l.getD (↑k : Int).toNat
                                                                          unitT.dflt).snd.snd.snd.fst).fst).fst.d,
                                                      ()),
                                                    ())].length ≤
                                            1048576) then
                                      some
                                        (Ex.normal,
                                          {
                                            t := anys 1 ++ [SV.ptr 0 0, SV.vec 1] ++ anys 1 ++ [SV.clo (Fn.func 73) [] [SV.ptr 0 0]] ++ anys 25 ++ [SV.dsl unitT l, SV.val (Value.int IntKind.i64 (↑l.length : Int)), SV.val (Value.int IntKind.i64 (IntKind.i64.wrap ((↑k : Int) + 1)))] ++ anys 69,
                                            m :=
                                              [Blk.cells
                                                  [SV.dsl
                                                      unitT
                                                      l]
                                                  38 false,
                                                Blk.vec
                                                  unitT
                                                  (x ++
                                                    [((l.getD (↑k : Int).toNat unitT.dflt).fst,
                                                        (l.getD (↑k : Int).toNat unitT.dflt).snd.fst,
                                                        (l.getD (↑k : Int).toNat unitT.dflt).snd.snd.fst,
                                                        (l.getD (↑k : Int).toNat unitT.dflt).snd.snd.snd.fst,
                                                        (x.getD
                                                                    (findF (l.getD (↑k : Int).toNat unitT.dflt).snd.fst
                                                                        (l)).toNat
                                                                    unitT.dflt).snd.snd.snd.snd.fst,
                                                        ((mulR
                                                                {
                                                                  neg :=
                                                                    (x.getD
                                                                                    (findF
                                                                                        (l.getD (↑k : Int).toNat
                                                                                              unitT.dflt).snd.fst
                                                                                        (l)).toNat
                                                                                    unitT.dflt).snd.snd.snd.snd.snd.fst.fst,
                                                                  n :=
                                                                    (x.getD
                                                                                      (findF
                                                                                          (l.getD (↑k : Int).toNat
                                                                                                unitT.dflt).snd.fst
                                                                                          (l)).toNat
                                                                                      unitT.dflt).snd.snd.snd.snd.snd.fst.snd.fst,
                                                                  d :=
                                                                    (x.getD
                                                                                        (findF
                                                                                            (l.getD (↑k : Int).toNat
                                                                                                  unitT.dflt).snd.fst
                                                                                            (l)).toNat
                                                                                        unitT.dflt).snd.snd.snd.snd.snd.fst.snd.snd.fst }
                                                                (newR (l.getD (↑k : Int).toNat unitT.dflt).snd.snd.fst
                                                                    (l.getD (↑k : Int).toNat
                                                                              unitT.dflt).snd.snd.snd.fst).fst).fst.neg,
                                                          (mulR
                                                                {
                                                                  neg :=
                                                                    (x.getD
                                                                                    (findF
                                                                                        (l.getD (↑k : Int).toNat
                                                                                              unitT.dflt).snd.fst
                                                                                        (l)).toNat
                                                                                    unitT.dflt).snd.snd.snd.snd.snd.fst.fst,
                                                                  n :=
                                                                    (x.getD
                                                                                      (findF
                                                                                          (l.getD (↑k : Int).toNat
                                                                                                unitT.dflt).snd.fst
                                                                                          (l)).toNat
                                                                                      unitT.dflt).snd.snd.snd.snd.snd.fst.snd.fst,
                                                                  d :=
                                                                    (x.getD
                                                                                        (findF
                                                                                            (l.getD (↑k : Int).toNat
                                                                                                  unitT.dflt).snd.fst
                                                                                            (l)).toNat
                                                                                        unitT.dflt).snd.snd.snd.snd.snd.fst.snd.snd.fst }
                                                                (newR (l.getD (↑k : Int).toNat unitT.dflt).snd.snd.fst
                                                                    (l.getD (↑k : Int).toNat
                                                                              unitT.dflt).snd.snd.snd.fst).fst).fst.n,
                                                          (mulR
                                                                {
                                                                  neg :=
                                                                    (x.getD
                                                                                    (findF
                                                                                        (l.getD (↑k : Int).toNat
                                                                                              unitT.dflt).snd.fst
                                                                                        (l)).toNat
                                                                                    unitT.dflt).snd.snd.snd.snd.snd.fst.fst,
                                                                  n :=
                                                                    (x.getD
                                                                                      (findF
                                                                                          (l.getD (↑k : Int).toNat
                                                                                                unitT.dflt).snd.fst
                                                                                          (l)).toNat
                                                                                      unitT.dflt).snd.snd.snd.snd.snd.fst.snd.fst,
                                                                  d :=
                                                                    (x.getD
                                                                                        (findF
                                                                                            (l.getD (↑k : Int).toNat
                                                                                                  unitT.dflt).snd.fst
                                                                                            (l)).toNat
                                                                                        unitT.dflt).snd.snd.snd.snd.snd.fst.snd.snd.fst }
                                                                (newR (l.getD (↑k : Int).toNat unitT.dflt).snd.snd.fst
                                                                    (l.getD (↑k : Int).toNat
                                                                              unitT.dflt).snd.snd.snd.fst).fst).fst.d,
                                                          ()),
                                                        ())])],
                                            d := [] })
                                    else none
                                else
                                  bif
                                      decide
                                        ((x).length +
                                            [((l.getD (↑k : Int).toNat unitT.dflt).fst,
                                                  (l.getD (↑k : Int).toNat unitT.dflt).snd.fst,
                                                  (l.getD (↑k : Int).toNat unitT.dflt).snd.snd.fst,
                                                  (l.getD (↑k : Int).toNat unitT.dflt).snd.snd.snd.fst,
                                                  (x.getD
                                                              (findF (l.getD (↑k : Int).toNat unitT.dflt).snd.fst
                                                                  (l)).toNat
                                                              unitT.dflt).snd.snd.snd.snd.fst,
                                                  ((mulR
                                                          {
                                                            neg :=
                                                              (x.getD
                                                                              (findF
                                                                                  (l.getD (↑k : Int).toNat
                                                                                        unitT.dflt).snd.fst
                                                                                  (l)).toNat
                                                                              unitT.dflt).snd.snd.snd.snd.snd.fst.fst,
                                                            n :=
                                                              (x.getD
                                                                                (findF
                                                                                    (l.getD (↑k : Int).toNat
                                                                                          unitT.dflt).snd.fst
                                                                                    (l)).toNat
                                                                                unitT.dflt).snd.snd.snd.snd.snd.fst.snd.fst,
                                                            d :=
                                                              (x.getD
                                                                                  (findF
                                                                                      (l.getD (↑k : Int).toNat
                                                                                            unitT.dflt).snd.fst
                                                                                      (l)).toNat
                                                                                  unitT.dflt).snd.snd.snd.snd.snd.fst.snd.snd.fst }
                                                          (newR (l.getD (↑k : Int).toNat unitT.dflt).snd.snd.fst
                                                              (l.getD (↑k : Int).toNat
                                                                        unitT.dflt).snd.snd.snd.fst).fst).fst.neg,
                                                    (mulR
                                                          {
                                                            neg :=
                                                              (x.getD
                                                                              (findF
                                                                                  (l.getD (↑k : Int).toNat
                                                                                        unitT.dflt).snd.fst
                                                                                  (l)).toNat
                                                                              unitT.dflt).snd.snd.snd.snd.snd.fst.fst,
                                                            n :=
                                                              (x.getD
                                                                                (findF
                                                                                    (l.getD (↑k : Int).toNat
                                                                                          unitT.dflt).snd.fst
                                                                                    (l)).toNat
                                                                                unitT.dflt).snd.snd.snd.snd.snd.fst.snd.fst,
                                                            d :=
                                                              (x.getD
                                                                                  (findF
                                                                                      (l.getD (↑k : Int).toNat
                                                                                            unitT.dflt).snd.fst
                                                                                      (l)).toNat
                                                                                  unitT.dflt).snd.snd.snd.snd.snd.fst.snd.snd.fst }
                                                          (newR (l.getD (↑k : Int).toNat unitT.dflt).snd.snd.fst
                                                              (l.getD (↑k : Int).toNat
                                                                        unitT.dflt).snd.snd.snd.fst).fst).fst.n,
                                                    (mulR
                                                          {
                                                            neg :=
                                                              (x.getD
                                                                              (findF
                                                                                  (l.getD (↑k : Int).toNat
                                                                                        unitT.dflt).snd.fst
                                                                                  (l)).toNat
                                                                              unitT.dflt).snd.snd.snd.snd.snd.fst.fst,
                                                            n :=
                                                              (x.getD
                                                                                (findF
                                                                                    (l.getD (↑k : Int).toNat
                                                                                          unitT.dflt).snd.fst
                                                                                    (l)).toNat
                                                                                unitT.dflt).snd.snd.snd.snd.snd.fst.snd.fst,
                                                            d :=
                                                              (x.getD
                                                                                  (findF
                                                                                      (l.getD (↑k : Int).toNat
                                                                                            unitT.dflt).snd.fst
                                                                                      (l)).toNat
                                                                                  unitT.dflt).snd.snd.snd.snd.snd.fst.snd.snd.fst }
                                                          (newR (l.getD (↑k : Int).toNat unitT.dflt).snd.snd.fst
                                                              (l.getD (↑k : Int).toNat
                                                                        unitT.dflt).snd.snd.snd.fst).fst).fst.d,
                                                    ()),
                                                  ())].length ≤
                                          1048576) then
                                    some
                                      (Ex.normal,
                                        {
                                          t := anys 1 ++ [SV.ptr 0 0, SV.vec 1] ++ anys 1 ++ [SV.clo (Fn.func 73) [] [SV.ptr 0 0]] ++ anys 25 ++ [SV.dsl unitT l, SV.val (Value.int IntKind.i64 (↑l.length : Int)), SV.val (Value.int IntKind.i64 (IntKind.i64.wrap ((↑k : Int) + 1)))] ++ anys 69,
                                          m :=
                                            [Blk.cells
                                                [SV.dsl
                                                    unitT
                                                    l]
                                                38 false,
                                              Blk.vec
                                                unitT
                                                (x ++
                                                  [((l.getD (↑k : Int).toNat unitT.dflt).fst,
                                                      (l.getD (↑k : Int).toNat unitT.dflt).snd.fst,
                                                      (l.getD (↑k : Int).toNat unitT.dflt).snd.snd.fst,
                                                      (l.getD (↑k : Int).toNat unitT.dflt).snd.snd.snd.fst,
                                                      (x.getD
                                                                  (findF (l.getD (↑k : Int).toNat unitT.dflt).snd.fst
                                                                      (l)).toNat
                                                                  unitT.dflt).snd.snd.snd.snd.fst,
                                                      ((mulR
                                                              {
                                                                neg :=
                                                                  (x.getD
                                                                                  (findF
                                                                                      (l.getD (↑k : Int).toNat
                                                                                            unitT.dflt).snd.fst
                                                                                      (l)).toNat
                                                                                  unitT.dflt).snd.snd.snd.snd.snd.fst.fst,
                                                                n :=
                                                                  (x.getD
                                                                                    (findF
                                                                                        (l.getD (↑k : Int).toNat
                                                                                              unitT.dflt).snd.fst
                                                                                        (l)).toNat
                                                                                    unitT.dflt).snd.snd.snd.snd.snd.fst.snd.fst,
                                                                d :=
                                                                  (x.getD
                                                                                      (findF
                                                                                          (l.getD (↑k : Int).toNat
                                                                                                unitT.dflt).snd.fst
                                                                                          (l)).toNat
                                                                                      unitT.dflt).snd.snd.snd.snd.snd.fst.snd.snd.fst }
                                                              (newR (l.getD (↑k : Int).toNat unitT.dflt).snd.snd.fst
                                                                  (l.getD (↑k : Int).toNat
                                                                            unitT.dflt).snd.snd.snd.fst).fst).fst.neg,
                                                        (mulR
                                                              {
                                                                neg :=
                                                                  (x.getD
                                                                                  (findF
                                                                                      (l.getD (↑k : Int).toNat
                                                                                            unitT.dflt).snd.fst
                                                                                      (l)).toNat
                                                                                  unitT.dflt).snd.snd.snd.snd.snd.fst.fst,
                                                                n :=
                                                                  (x.getD
                                                                                    (findF
                                                                                        (l.getD (↑k : Int).toNat
                                                                                              unitT.dflt).snd.fst
                                                                                        (l)).toNat
                                                                                    unitT.dflt).snd.snd.snd.snd.snd.fst.snd.fst,
                                                                d :=
                                                                  (x.getD
                                                                                      (findF
                                                                                          (l.getD (↑k : Int).toNat
                                                                                                unitT.dflt).snd.fst
                                                                                          (l)).toNat
                                                                                      unitT.dflt).snd.snd.snd.snd.snd.fst.snd.snd.fst }
                                                              (newR (l.getD (↑k : Int).toNat unitT.dflt).snd.snd.fst
                                                                  (l.getD (↑k : Int).toNat
                                                                            unitT.dflt).snd.snd.snd.fst).fst).fst.n,
                                                        (mulR
                                                              {
                                                                neg :=
                                                                  (x.getD
                                                                                  (findF
                                                                                      (l.getD (↑k : Int).toNat
                                                                                            unitT.dflt).snd.fst
                                                                                      (l)).toNat
                                                                                  unitT.dflt).snd.snd.snd.snd.snd.fst.fst,
                                                                n :=
                                                                  (x.getD
                                                                                    (findF
                                                                                        (l.getD (↑k : Int).toNat
                                                                                              unitT.dflt).snd.fst
                                                                                        (l)).toNat
                                                                                    unitT.dflt).snd.snd.snd.snd.snd.fst.snd.fst,
                                                                d :=
                                                                  (x.getD
                                                                                      (findF
                                                                                          (l.getD (↑k : Int).toNat
                                                                                                unitT.dflt).snd.fst
                                                                                          (l)).toNat
                                                                                      unitT.dflt).snd.snd.snd.snd.snd.fst.snd.snd.fst }
                                                              (newR (l.getD (↑k : Int).toNat unitT.dflt).snd.snd.fst
                                                                  (l.getD (↑k : Int).toNat
                                                                            unitT.dflt).snd.snd.snd.fst).fst).fst.d,
                                                        ()),
                                                      ())])],
                                          d := [] })
                                  else none
                              else none
                            else none
                          else none
                      else none
                else none
              else
                bif
                    decide
                      ((x).length +
                          [((l.getD (↑k : Int).toNat unitT.dflt).fst, (l.getD (↑k : Int).toNat unitT.dflt).snd.fst,
                                (l.getD (↑k : Int).toNat unitT.dflt).snd.snd.fst,
                                (l.getD (↑k : Int).toNat unitT.dflt).snd.snd.snd.fst, (↑k : Int),
                                ((newR 1 1).fst.neg, (newR 1 1).fst.n, (newR 1 1).fst.d, ()), ())].length ≤
                        1048576) then
                  some
                    (Ex.normal,
                      {
                        t := anys 1 ++ [SV.ptr 0 0, SV.vec 1] ++ anys 1 ++ [SV.clo (Fn.func 73) [] [SV.ptr 0 0]] ++ anys 25 ++ [SV.dsl unitT l, SV.val (Value.int IntKind.i64 (↑l.length : Int)), SV.val (Value.int IntKind.i64 (IntKind.i64.wrap ((↑k : Int) + 1)))] ++ anys 69,
                        m :=
                          [Blk.cells
                              [SV.dsl
                                  unitT
                                  l]
                              38 false,
                            Blk.vec
                              unitT
                              (x ++
                                [((l.getD (↑k : Int).toNat unitT.dflt).fst, (l.getD (↑k : Int).toNat unitT.dflt).snd.fst,
                                    (l.getD (↑k : Int).toNat unitT.dflt).snd.snd.fst,
                                    (l.getD (↑k : Int).toNat unitT.dflt).snd.snd.snd.fst, (↑k : Int),
                                    ((newR 1 1).fst.neg, (newR 1 1).fst.n, (newR 1 1).fst.d, ()), ())])],
                        d := [] })
                else none
          else
            some
              (Ex.ret,
                {
                  t := anys 2 ++ [SV.val (Value.slice none 0 0), SV.val (Value.int IntKind.i64 90)] ++ anys 98,
                  m :=
                    [Blk.cells
                        [SV.dsl
                            unitT
                            l]
                        38 false],
                  d := [] })
        else
          bif decide ((l.getD (↑k : Int).toNat unitT.dflt).snd.snd.fst ≥ 1) then
            bif decide ((l.getD (↑k : Int).toNat unitT.dflt).snd.snd.fst ≤ 1000000) then
              bif decide ((l.getD (↑k : Int).toNat unitT.dflt).snd.snd.snd.fst ≥ 1) then
                bif !decide ((l.getD (↑k : Int).toNat unitT.dflt).snd.snd.snd.fst ≤ 1000000) then
                  some
                    (Ex.ret,
                      {
                        t := anys 2 ++ [SV.val (Value.slice none 0 0), SV.val (Value.int IntKind.i64 90)] ++ anys 98,
                        m :=
                          [Blk.cells
                              [SV.dsl
                                  unitT
                                  l]
                              38 false],
                        d := [] })
                else
                  bif !ByteArray.toList (l.getD (↑k : Int).toNat unitT.dflt).snd.fst == (bs []).toList then
                    bif lenB (l) then
                      bif decide (findF (l.getD (↑k : Int).toNat unitT.dflt).snd.fst (l) < 0) then
                        some
                          (Ex.ret,
                            {
                              t := anys 2 ++ [SV.val (Value.slice none 0 0), SV.val (Value.int IntKind.i64 110)] ++ anys 98,
                              m :=
                                [Blk.cells
                                    [SV.dsl
                                        unitT
                                        l]
                                    38 false],
                              d := [] })
                      else
                        bif decide (findF (l.getD (↑k : Int).toNat unitT.dflt).snd.fst (l) ≥ (↑k : Int)) then
                          some
                            (Ex.ret,
                              {
                                t := anys 2 ++ [SV.val (Value.slice none 0 0), SV.val (Value.int IntKind.i64 110)] ++ anys 98,
                                m :=
                                  [Blk.cells
                                      [SV.dsl
                                          unitT
                                          l]
                                      38 false],
                                d := [] })
                        else
                          bif
                              inI (l.getD (↑k : Int).toNat unitT.dflt).snd.snd.fst &&
                                inI (l.getD (↑k : Int).toNat unitT.dflt).snd.snd.snd.fst then
                            bif
                                (newR (l.getD (↑k : Int).toNat unitT.dflt).snd.snd.fst
                                      (l.getD (↑k : Int).toNat unitT.dflt).snd.snd.snd.fst).snd !=
                                  0 then
                              some
                                (Ex.ret,
                                  {
                                    t := anys 2 ++ [SV.val (Value.slice none 0 0), SV.val (Value.int IntKind.i64 (newR (l.getD (↑k : Int).toNat unitT.dflt).snd.snd.fst (l.getD (↑k : Int).toNat unitT.dflt).snd.snd.snd.fst).snd)] ++ anys 98,
                                    m :=
                                      [Blk.cells
                                          [SV.dsl
                                              unitT
                                              l]
                                          38 false],
                                    d := [] })
                            else
                              bif inB (findF (l.getD (↑k : Int).toNat unitT.dflt).snd.fst (l)) x.length then
                                bif inB (findF (l.getD (↑k : Int).toNat unitT.dflt).snd.fst (l)) x.length then
                                  bif
                                      szB
                                            (x.getD
                                                              (findF (l.getD (↑k : Int).toNat unitT.dflt).snd.fst
                                                                  (l)).toNat
                                                              unitT.dflt).snd.snd.snd.snd.snd.fst.snd.fst &&
                                          szB
                                            (x.getD
                                                                (findF (l.getD (↑k : Int).toNat unitT.dflt).snd.fst
                                                                    (l)).toNat
                                                                unitT.dflt).snd.snd.snd.snd.snd.fst.snd.snd.fst &&
                                        (szB
                                            (newR (l.getD (↑k : Int).toNat unitT.dflt).snd.snd.fst
                                                  (l.getD (↑k : Int).toNat unitT.dflt).snd.snd.snd.fst).fst.n &&
                                          szB
                                            (newR (l.getD (↑k : Int).toNat unitT.dflt).snd.snd.fst
                                                  (l.getD (↑k : Int).toNat unitT.dflt).snd.snd.snd.fst).fst.d) then
                                    bif
                                        (mulR
                                              {
                                                neg :=
                                                  (x.getD
                                                                  (findF (l.getD (↑k : Int).toNat unitT.dflt).snd.fst
                                                                      (l)).toNat
                                                                  unitT.dflt).snd.snd.snd.snd.snd.fst.fst,
                                                n :=
                                                  (x.getD
                                                                    (findF (l.getD (↑k : Int).toNat unitT.dflt).snd.fst
                                                                        (l)).toNat
                                                                    unitT.dflt).snd.snd.snd.snd.snd.fst.snd.fst,
                                                d :=
                                                  (x.getD
                                                                      (findF (l.getD (↑k : Int).toNat unitT.dflt).snd.fst
                                                                          (l)).toNat
                                                                      unitT.dflt).snd.snd.snd.snd.snd.fst.snd.snd.fst }
                                              (newR (l.getD (↑k : Int).toNat unitT.dflt).snd.snd.fst
                                                  (l.getD (↑k : Int).toNat unitT.dflt).snd.snd.snd.fst).fst).snd !=
                                          0 then
                                      bif
                                          (mulR
                                                {
                                                  neg :=
                                                    (x.getD
                                                                    (findF (l.getD (↑k : Int).toNat unitT.dflt).snd.fst
                                                                        (l)).toNat
                                                                    unitT.dflt).snd.snd.snd.snd.snd.fst.fst,
                                                  n :=
                                                    (x.getD
                                                                      (findF (l.getD (↑k : Int).toNat unitT.dflt).snd.fst
                                                                          (l)).toNat
                                                                      unitT.dflt).snd.snd.snd.snd.snd.fst.snd.fst,
                                                  d :=
                                                    (x.getD
                                                                        (findF (l.getD (↑k : Int).toNat unitT.dflt).snd.fst
                                                                            (l)).toNat
                                                                        unitT.dflt).snd.snd.snd.snd.snd.fst.snd.snd.fst }
                                                (newR (l.getD (↑k : Int).toNat unitT.dflt).snd.snd.fst
                                                    (l.getD (↑k : Int).toNat unitT.dflt).snd.snd.snd.fst).fst).snd !=
                                            0 then
                                        some
                                          (Ex.ret,
                                            {
                                              t := anys 2 ++ [SV.val (Value.slice none 0 0), SV.val (Value.int IntKind.i64 (mulR { neg := (x.getD (findF (l.getD (↑k : Int).toNat unitT.dflt).snd.fst (l)).toNat unitT.dflt).snd.snd.snd.snd.snd.fst.fst, n := (x.getD (findF (l.getD (↑k : Int).toNat unitT.dflt).snd.fst (l)).toNat unitT.dflt).snd.snd.snd.snd.snd.fst.snd.fst, d := (x.getD (findF (l.getD (↑k : Int).toNat unitT.dflt).snd.fst (l)).toNat unitT.dflt).snd.snd.snd.snd.snd.fst.snd.snd.fst } (newR (l.getD (↑k : Int).toNat unitT.dflt).snd.snd.fst (l.getD (↑k : Int).toNat unitT.dflt).snd.snd.snd.fst).fst).snd)] ++ anys 98,
                                              m :=
                                                [Blk.cells
                                                    [SV.dsl
                                                        unitT
                                                        l]
                                                    38 false],
                                              d := [] })
                                      else
                                        bif
                                            decide
                                              ((x).length +
                                                  [((l.getD (↑k : Int).toNat unitT.dflt).fst,
                                                        (l.getD (↑k : Int).toNat unitT.dflt).snd.fst,
                                                        (l.getD (↑k : Int).toNat unitT.dflt).snd.snd.fst,
                                                        (l.getD (↑k : Int).toNat unitT.dflt).snd.snd.snd.fst,
                                                        (x.getD
                                                                    (findF (l.getD (↑k : Int).toNat unitT.dflt).snd.fst
                                                                        (l)).toNat
                                                                    unitT.dflt).snd.snd.snd.snd.fst,
                                                        ((mulR
                                                                {
                                                                  neg :=
                                                                    (x.getD
                                                                                    (findF
                                                                                        (l.getD (↑k : Int).toNat
                                                                                              unitT.dflt).snd.fst
                                                                                        (l)).toNat
                                                                                    unitT.dflt).snd.snd.snd.snd.snd.fst.fst,
                                                                  n :=
                                                                    (x.getD
                                                                                      (findF
                                                                                          (l.getD (↑k : Int).toNat
                                                                                                unitT.dflt).snd.fst
                                                                                          (l)).toNat
                                                                                      unitT.dflt).snd.snd.snd.snd.snd.fst.snd.fst,
                                                                  d :=
                                                                    (x.getD
                                                                                        (findF
                                                                                            (l.getD (↑k : Int).toNat
                                                                                                  unitT.dflt).snd.fst
                                                                                            (l)).toNat
                                                                                        unitT.dflt).snd.snd.snd.snd.snd.fst.snd.snd.fst }
                                                                (newR (l.getD (↑k : Int).toNat unitT.dflt).snd.snd.fst
                                                                    (l.getD (↑k : Int).toNat
                                                                              unitT.dflt).snd.snd.snd.fst).fst).fst.neg,
                                                          (mulR
                                                                {
                                                                  neg :=
                                                                    (x.getD
                                                                                    (findF
                                                                                        (l.getD (↑k : Int).toNat
                                                                                              unitT.dflt).snd.fst
                                                                                        (l)).toNat
                                                                                    unitT.dflt).snd.snd.snd.snd.snd.fst.fst,
                                                                  n :=
                                                                    (x.getD
                                                                                      (findF
                                                                                          (l.getD (↑k : Int).toNat
                                                                                                unitT.dflt).snd.fst
                                                                                          (l)).toNat
                                                                                      unitT.dflt).snd.snd.snd.snd.snd.fst.snd.fst,
                                                                  d :=
                                                                    (x.getD
                                                                                        (findF
                                                                                            (l.getD (↑k : Int).toNat
                                                                                                  unitT.dflt).snd.fst
                                                                                            (l)).toNat
                                                                                        unitT.dflt).snd.snd.snd.snd.snd.fst.snd.snd.fst }
                                                                (newR (l.getD (↑k : Int).toNat unitT.dflt).snd.snd.fst
                                                                    (l.getD (↑k : Int).toNat
                                                                              unitT.dflt).snd.snd.snd.fst).fst).fst.n,
                                                          (mulR
                                                                {
                                                                  neg :=
                                                                    (x.getD
                                                                                    (findF
                                                                                        (l.getD (↑k : Int).toNat
                                                                                              unitT.dflt).snd.fst
                                                                                        (l)).toNat
                                                                                    unitT.dflt).snd.snd.snd.snd.snd.fst.fst,
                                                                  n :=
                                                                    (x.getD
                                                                                      (findF
                                                                                          (l.getD (↑k : Int).toNat
                                                                                                unitT.dflt).snd.fst
                                                                                          (l)).toNat
                                                                                      unitT.dflt).snd.snd.snd.snd.snd.fst.snd.fst,
                                                                  d :=
                                                                    (x.getD
                                                                                        (findF
                                                                                            (l.getD (↑k : Int).toNat
                                                                                                  unitT.dflt).snd.fst
                                                                                            (l)).toNat
                                                                                        unitT.dflt).snd.snd.snd.snd.snd.fst.snd.snd.fst }
                                                                (newR (l.getD (↑k : Int).toNat unitT.dflt).snd.snd.fst
                                                                    (l.getD (↑k : Int).toNat
                                                                              unitT.dflt).snd.snd.snd.fst).fst).fst.d,
                                                          ()),
                                                        ())].length ≤
                                                1048576) then
                                          some
                                            (Ex.normal,
                                              {
                                                t := anys 1 ++ [SV.ptr 0 0, SV.vec 1] ++ anys 1 ++ [SV.clo (Fn.func 73) [] [SV.ptr 0 0]] ++ anys 25 ++ [SV.dsl unitT l, SV.val (Value.int IntKind.i64 (↑l.length : Int)), SV.val (Value.int IntKind.i64 (IntKind.i64.wrap ((↑k : Int) + 1)))] ++ anys 69,
                                                m :=
                                                  [Blk.cells
                                                      [SV.dsl
                                                          unitT
                                                          l]
                                                      38 false,
                                                    Blk.vec
                                                      unitT
                                                      (x ++
                                                        [((l.getD (↑k : Int).toNat unitT.dflt).fst,
                                                            (l.getD (↑k : Int).toNat unitT.dflt).snd.fst,
                                                            (l.getD (↑k : Int).toNat unitT.dflt).snd.snd.fst,
                                                            (l.getD (↑k : Int).toNat unitT.dflt).snd.snd.snd.fst,
                                                            (x.getD
                                                                        (findF (l.getD (↑k : Int).toNat unitT.dflt).snd.fst
                                                                            (l)).toNat
                                                                        unitT.dflt).snd.snd.snd.snd.fst,
                                                            ((mulR
                                                                    {
                                                                      neg :=
                                                                        (x.getD
                                                                                        (findF
                                                                                            (l.getD (↑k : Int).toNat
                                                                                                  unitT.dflt).snd.fst
                                                                                            (l)).toNat
                                                                                        unitT.dflt).snd.snd.snd.snd.snd.fst.fst,
                                                                      n :=
                                                                        (x.getD
                                                                                          (findF
                                                                                              (l.getD (↑k : Int).toNat
                                                                                                    unitT.dflt).snd.fst
                                                                                              (l)).toNat
                                                                                          unitT.dflt).snd.snd.snd.snd.snd.fst.snd.fst,
                                                                      d :=
                                                                        (x.getD
                                                                                            (findF
                                                                                                (l.getD (↑k : Int).toNat
                                                                                                      unitT.dflt).snd.fst
                                                                                                (l)).toNat
                                                                                            unitT.dflt).snd.snd.snd.snd.snd.fst.snd.snd.fst }
                                                                    (newR (l.getD (↑k : Int).toNat unitT.dflt).snd.snd.fst
                                                                        (l.getD (↑k : Int).toNat
                                                                                  unitT.dflt).snd.snd.snd.fst).fst).fst.neg,
                                                              (mulR
                                                                    {
                                                                      neg :=
                                                                        (x.getD
                                                                                        (findF
                                                                                            (l.getD (↑k : Int).toNat
                                                                                                  unitT.dflt).snd.fst
                                                                                            (l)).toNat
                                                                                        unitT.dflt).snd.snd.snd.snd.snd.fst.fst,
                                                                      n :=
                                                                        (x.getD
                                                                                          (findF
                                                                                              (l.getD (↑k : Int).toNat
                                                                                                    unitT.dflt).snd.fst
                                                                                              (l)).toNat
                                                                                          unitT.dflt).snd.snd.snd.snd.snd.fst.snd.fst,
                                                                      d :=
                                                                        (x.getD
                                                                                            (findF
                                                                                                (l.getD (↑k : Int).toNat
                                                                                                      unitT.dflt).snd.fst
                                                                                                (l)).toNat
                                                                                            unitT.dflt).snd.snd.snd.snd.snd.fst.snd.snd.fst }
                                                                    (newR (l.getD (↑k : Int).toNat unitT.dflt).snd.snd.fst
                                                                        (l.getD (↑k : Int).toNat
                                                                                  unitT.dflt).snd.snd.snd.fst).fst).fst.n,
                                                              (mulR
                                                                    {
                                                                      neg :=
                                                                        (x.getD
                                                                                        (findF
                                                                                            (l.getD (↑k : Int).toNat
                                                                                                  unitT.dflt).snd.fst
                                                                                            (l)).toNat
                                                                                        unitT.dflt).snd.snd.snd.snd.snd.fst.fst,
                                                                      n :=
                                                                        (x.getD
                                                                                          (findF
                                                                                              (l.getD (↑k : Int).toNat
                                                                                                    unitT.dflt).snd.fst
                                                                                              (l)).toNat
                                                                                          unitT.dflt).snd.snd.snd.snd.snd.fst.snd.fst,
                                                                      d :=
                                                                        (x.getD
                                                                                            (findF
                                                                                                (l.getD (↑k : Int).toNat
                                                                                                      unitT.dflt).snd.fst
                                                                                                (l)).toNat
                                                                                            unitT.dflt).snd.snd.snd.snd.snd.fst.snd.snd.fst }
                                                                    (newR (l.getD (↑k : Int).toNat unitT.dflt).snd.snd.fst
                                                                        (l.getD (↑k : Int).toNat
                                                                                  unitT.dflt).snd.snd.snd.fst).fst).fst.d,
                                                              ()),
                                                            ())])],
                                                d := [] })
                                        else none
                                    else
                                      bif
                                          decide
                                            ((x).length +
                                                [((l.getD (↑k : Int).toNat unitT.dflt).fst,
                                                      (l.getD (↑k : Int).toNat unitT.dflt).snd.fst,
                                                      (l.getD (↑k : Int).toNat unitT.dflt).snd.snd.fst,
                                                      (l.getD (↑k : Int).toNat unitT.dflt).snd.snd.snd.fst,
                                                      (x.getD
                                                                  (findF (l.getD (↑k : Int).toNat unitT.dflt).snd.fst
                                                                      (l)).toNat
                                                                  unitT.dflt).snd.snd.snd.snd.fst,
                                                      ((mulR
                                                              {
                                                                neg :=
                                                                  (x.getD
                                                                                  (findF
                                                                                      (l.getD (↑k : Int).toNat
                                                                                            unitT.dflt).snd.fst
                                                                                      (l)).toNat
                                                                                  unitT.dflt).snd.snd.snd.snd.snd.fst.fst,
                                                                n :=
                                                                  (x.getD
                                                                                    (findF
                                                                                        (l.getD (↑k : Int).toNat
                                                                                              unitT.dflt).snd.fst
                                                                                        (l)).toNat
                                                                                    unitT.dflt).snd.snd.snd.snd.snd.fst.snd.fst,
                                                                d :=
                                                                  (x.getD
                                                                                      (findF
                                                                                          (l.getD (↑k : Int).toNat
                                                                                                unitT.dflt).snd.fst
                                                                                          (l)).toNat
                                                                                      unitT.dflt).snd.snd.snd.snd.snd.fst.snd.snd.fst }
                                                              (newR (l.getD (↑k : Int).toNat unitT.dflt).snd.snd.fst
                                                                  (l.getD (↑k : Int).toNat
                                                                            unitT.dflt).snd.snd.snd.fst).fst).fst.neg,
                                                        (mulR
                                                              {
                                                                neg :=
                                                                  (x.getD
                                                                                  (findF
                                                                                      (l.getD (↑k : Int).toNat
                                                                                            unitT.dflt).snd.fst
                                                                                      (l)).toNat
                                                                                  unitT.dflt).snd.snd.snd.snd.snd.fst.fst,
                                                                n :=
                                                                  (x.getD
                                                                                    (findF
                                                                                        (l.getD (↑k : Int).toNat
                                                                                              unitT.dflt).snd.fst
                                                                                        (l)).toNat
                                                                                    unitT.dflt).snd.snd.snd.snd.snd.fst.snd.fst,
                                                                d :=
                                                                  (x.getD
                                                                                      (findF
                                                                                          (l.getD (↑k : Int).toNat
                                                                                                unitT.dflt).snd.fst
                                                                                          (l)).toNat
                                                                                      unitT.dflt).snd.snd.snd.snd.snd.fst.snd.snd.fst }
                                                              (newR (l.getD (↑k : Int).toNat unitT.dflt).snd.snd.fst
                                                                  (l.getD (↑k : Int).toNat
                                                                            unitT.dflt).snd.snd.snd.fst).fst).fst.n,
                                                        (mulR
                                                              {
                                                                neg :=
                                                                  (x.getD
                                                                                  (findF
                                                                                      (l.getD (↑k : Int).toNat
                                                                                            unitT.dflt).snd.fst
                                                                                      (l)).toNat
                                                                                  unitT.dflt).snd.snd.snd.snd.snd.fst.fst,
                                                                n :=
                                                                  (x.getD
                                                                                    (findF
                                                                                        (l.getD (↑k : Int).toNat
                                                                                              unitT.dflt).snd.fst
                                                                                        (l)).toNat
                                                                                    unitT.dflt).snd.snd.snd.snd.snd.fst.snd.fst,
                                                                d :=
                                                                  (x.getD
                                                                                      (findF
                                                                                          (l.getD (↑k : Int).toNat
                                                                                                unitT.dflt).snd.fst
                                                                                          (l)).toNat
                                                                                      unitT.dflt).snd.snd.snd.snd.snd.fst.snd.snd.fst }
                                                              (newR (l.getD (↑k : Int).toNat unitT.dflt).snd.snd.fst
                                                                  (l.getD (↑k : Int).toNat
                                                                            unitT.dflt).snd.snd.snd.fst).fst).fst.d,
                                                        ()),
                                                      ())].length ≤
                                              1048576) then
                                        some
                                          (Ex.normal,
                                            {
                                              t := anys 1 ++ [SV.ptr 0 0, SV.vec 1] ++ anys 1 ++ [SV.clo (Fn.func 73) [] [SV.ptr 0 0]] ++ anys 25 ++ [SV.dsl unitT l, SV.val (Value.int IntKind.i64 (↑l.length : Int)), SV.val (Value.int IntKind.i64 (IntKind.i64.wrap ((↑k : Int) + 1)))] ++ anys 69,
                                              m :=
                                                [Blk.cells
                                                    [SV.dsl
                                                        unitT
                                                        l]
                                                    38 false,
                                                  Blk.vec
                                                    unitT
                                                    (x ++
                                                      [((l.getD (↑k : Int).toNat unitT.dflt).fst,
                                                          (l.getD (↑k : Int).toNat unitT.dflt).snd.fst,
                                                          (l.getD (↑k : Int).toNat unitT.dflt).snd.snd.fst,
                                                          (l.getD (↑k : Int).toNat unitT.dflt).snd.snd.snd.fst,
                                                          (x.getD
                                                                      (findF (l.getD (↑k : Int).toNat unitT.dflt).snd.fst
                                                                          (l)).toNat
                                                                      unitT.dflt).snd.snd.snd.snd.fst,
                                                          ((mulR
                                                                  {
                                                                    neg :=
                                                                      (x.getD
                                                                                      (findF
                                                                                          (l.getD (↑k : Int).toNat
                                                                                                unitT.dflt).snd.fst
                                                                                          (l)).toNat
                                                                                      unitT.dflt).snd.snd.snd.snd.snd.fst.fst,
                                                                    n :=
                                                                      (x.getD
                                                                                        (findF
                                                                                            (l.getD (↑k : Int).toNat
                                                                                                  unitT.dflt).snd.fst
                                                                                            (l)).toNat
                                                                                        unitT.dflt).snd.snd.snd.snd.snd.fst.snd.fst,
                                                                    d :=
                                                                      (x.getD
                                                                                          (findF
                                                                                              (l.getD (↑k : Int).toNat
                                                                                                    unitT.dflt).snd.fst
                                                                                              (l)).toNat
                                                                                          unitT.dflt).snd.snd.snd.snd.snd.fst.snd.snd.fst }
                                                                  (newR (l.getD (↑k : Int).toNat unitT.dflt).snd.snd.fst
                                                                      (l.getD (↑k : Int).toNat
                                                                                unitT.dflt).snd.snd.snd.fst).fst).fst.neg,
                                                            (mulR
                                                                  {
                                                                    neg :=
                                                                      (x.getD
                                                                                      (findF
                                                                                          (l.getD (↑k : Int).toNat
                                                                                                unitT.dflt).snd.fst
                                                                                          (l)).toNat
                                                                                      unitT.dflt).snd.snd.snd.snd.snd.fst.fst,
                                                                    n :=
                                                                      (x.getD
                                                                                        (findF
                                                                                            (l.getD (↑k : Int).toNat
                                                                                                  unitT.dflt).snd.fst
                                                                                            (l)).toNat
                                                                                        unitT.dflt).snd.snd.snd.snd.snd.fst.snd.fst,
                                                                    d :=
                                                                      (x.getD
                                                                                          (findF
                                                                                              (l.getD (↑k : Int).toNat
                                                                                                    unitT.dflt).snd.fst
                                                                                              (l)).toNat
                                                                                          unitT.dflt).snd.snd.snd.snd.snd.fst.snd.snd.fst }
                                                                  (newR (l.getD (↑k : Int).toNat unitT.dflt).snd.snd.fst
                                                                      (l.getD (↑k : Int).toNat
                                                                                unitT.dflt).snd.snd.snd.fst).fst).fst.n,
                                                            (mulR
                                                                  {
                                                                    neg :=
                                                                      (x.getD
                                                                                      (findF
                                                                                          (l.getD (↑k : Int).toNat
                                                                                                unitT.dflt).snd.fst
                                                                                          (l)).toNat
                                                                                      unitT.dflt).snd.snd.snd.snd.snd.fst.fst,
                                                                    n :=
                                                                      (x.getD
                                                                                        (findF
                                                                                            (l.getD (↑k : Int).toNat
                                                                                                  unitT.dflt).snd.fst
                                                                                            (l)).toNat
                                                                                        unitT.dflt).snd.snd.snd.snd.snd.fst.snd.fst,
                                                                    d :=
                                                                      (x.getD
                                                                                          (findF
                                                                                              (l.getD (↑k : Int).toNat
                                                                                                    unitT.dflt).snd.fst
                                                                                              (l)).toNat
                                                                                          unitT.dflt).snd.snd.snd.snd.snd.fst.snd.snd.fst }
                                                                  (newR (l.getD (↑k : Int).toNat unitT.dflt).snd.snd.fst
                                                                      (l.getD (↑k : Int).toNat
                                                                                unitT.dflt).snd.snd.snd.fst).fst).fst.d,
                                                            ()),
                                                          ())])],
                                              d := [] })
                                      else none
                                  else none
                                else none
                              else none
                          else none
                    else none
                  else
                    bif
                        decide
                          ((x).length +
                              [((l.getD (↑k : Int).toNat unitT.dflt).fst, (l.getD (↑k : Int).toNat unitT.dflt).snd.fst,
                                    (l.getD (↑k : Int).toNat unitT.dflt).snd.snd.fst,
                                    (l.getD (↑k : Int).toNat unitT.dflt).snd.snd.snd.fst, (↑k : Int),
                                    ((newR 1 1).fst.neg, (newR 1 1).fst.n, (newR 1 1).fst.d, ()), ())].length ≤
                            1048576) then
                      some
                        (Ex.normal,
                          {
                            t := anys 1 ++ [SV.ptr 0 0, SV.vec 1] ++ anys 1 ++ [SV.clo (Fn.func 73) [] [SV.ptr 0 0]] ++ anys 25 ++ [SV.dsl unitT l, SV.val (Value.int IntKind.i64 (↑l.length : Int)), SV.val (Value.int IntKind.i64 (IntKind.i64.wrap ((↑k : Int) + 1)))] ++ anys 69,
                            m :=
                              [Blk.cells
                                  [SV.dsl
                                      unitT
                                      l]
                                  38 false,
                                Blk.vec
                                  unitT
                                  (x ++
                                    [((l.getD (↑k : Int).toNat unitT.dflt).fst,
                                        (l.getD (↑k : Int).toNat unitT.dflt).snd.fst,
                                        (l.getD (↑k : Int).toNat unitT.dflt).snd.snd.fst,
                                        (l.getD (↑k : Int).toNat unitT.dflt).snd.snd.snd.fst, (↑k : Int),
                                        ((newR 1 1).fst.neg, (newR 1 1).fst.n, (newR 1 1).fst.d, ()), ())])],
                            d := [] })
                    else none
              else
                some
                  (Ex.ret,
                    {
                      t := anys 2 ++ [SV.val (Value.slice none 0 0), SV.val (Value.int IntKind.i64 90)] ++ anys 98,
                      m :=
                        [Blk.cells
                            [SV.dsl
                                unitT
                                l]
                            38 false],
                      d := [] })
            else
              some
                (Ex.ret,
                  {
                    t := anys 2 ++ [SV.val (Value.slice none 0 0), SV.val (Value.int IntKind.i64 90)] ++ anys 98,
                    m :=
                      [Blk.cells
                          [SV.dsl
                              unitT
                              l]
                          38 false],
                    d := [] })
          else
            some
              (Ex.ret,
                {
                  t := anys 2 ++ [SV.val (Value.slice none 0 0), SV.val (Value.int IntKind.i64 90)] ++ anys 98,
                  m :=
                    [Blk.cells
                        [SV.dsl
                            unitT
                            l]
                        38 false],
                  d := [] })
      else none
    else
      some
        (Ex.exit 2,
          {
            t := anys 2 ++ [SV.vec 1] ++ anys 99,
            m :=
              [Blk.cells
                  [SV.dsl
                      unitT
                      l]
                  38 false,
                Blk.vec
                  unitT
                  x],
            d := [] }) := by kernel_rfl

end Go.Proofs.Ytmcejefeloljiaa

/-
  Loops that go over a list from its head to its end: their rule.
-/
namespace Go.SX
set_option linter.unusedVariables false
set_option linter.unusedSimpArgs false
open Go.RowKit

/-- from the left, until something is wrong -/
def foldE {σ α ρ : Type} (step : Nat → σ → α → Except ρ σ) : List α → Nat → σ → Except ρ σ
  | [], _, s => .ok s
  | a :: l, k, s => match step k s a with
    | .ok s' => foldE step l (k + 1) s'
    | .error r => .error r
theorem foldE_nil {σ α ρ : Type} (step : Nat → σ → α → Except ρ σ) (k : Nat) (s : σ) : foldE step [] k s = .ok s := rfl
theorem foldE_cons {σ α ρ : Type} (step : Nat → σ → α → Except ρ σ) (a : α) (l : List α) (k : Nat) (s : σ) : foldE step (a :: l) k s = match step k s a with
    | .ok s' => foldE step l (k + 1) s'
    | .error r => .error r := rfl
def exOk {σ ρ : Type} : Except ρ σ → Bool
  | .ok _ => true
  | .error _ => false
def exV {σ ρ : Type} (d : σ) : Except ρ σ → σ
  | .ok s => s
  | .error _ => d
def exE {σ ρ : Type} (d : ρ) : Except ρ σ → ρ
  | .ok _ => d
  | .error r => r
/-- what a round comes to -/
def roundF {σ ρ : Type} (S : σ → Nat → St) (ret : ρ → Ex × St) (k : Nat) : Except ρ σ → Ex × St
  | .ok s => (.normal, S s (k + 1))
  | .error r => ret r
def resF {σ ρ : Type} (done : σ → Ex × St) (ret : ρ → Ex × St) : Except ρ σ → Ex × St
  | .ok s => done s
  | .error r => ret r
def resR {σ ρ : Type} (d : σ) (d' : ρ) (done : σ → Ex × St) (ret : ρ → Ex × St) (x : Except ρ σ) : R3 (Ex × St) := .br (exOk x) (.ok (done (exV d x))) (.ok (ret (exE d' x)))
theorem resR_res {σ ρ : Type} {d : σ} {d' : ρ} {done : σ → Ex × St} {ret : ρ → Ex × St} {x : Except ρ σ} {e : Ex × St} (h : (resR d d' done ret x).res = some e) : resF done ret x = e := by
  cases x <;> exact Option.some.inj h
variable {P : Program}
/-- no loop is walked -/
def stopL : Loops := fun _ _ => some fun _ _ => .no
theorem stopL_ok {rd : Rd} : LoopsOk P rd stopL := by
  intro f id hh hf c hin hfr n s e s1 hres
  cases hf
  cases hres
/-- the same, if there are loops within, a table for each round -/
theorem fold_okL {σ α ρ : Type} {con : PCon} {lp : σ → Nat → Loops} {g : Loops} {n0 : Nat} {f : FuncId} {id : Nat} {rs : List Root} {ts : List Nat} {l : List α} {S : σ → Nat → St}
    {step : Nat → σ → α → Except ρ σ} {done : σ → Ex × St} {ret : ρ → Ex × St} {d : σ} {d' : ρ} {s0 : σ} (N : Ex → Option (List Root × List Nat)) (fuel : Nat) (Inv : σ → Nat → Prop) (hP : POk P) (hc : PConOk P Rd.no con) (hlp : ∀ s k, Inv s k → k ≤ l.length → LoopsOk P Rd.no (lp s k))
    (hu : (loopsAt P f id).length = 1) (hg : LoopsOk P Rd.no g)
    (hd : ∀ s, (done s).1 ≠ .normal ∧ (done s).1.deep = true) (hr : ∀ r, (ret r).1 ≠ .normal ∧ (ret r).1.deep = true)
    (h1 : ∀ s k (hk : k < l.length), Inv s k → sxB P (lp s k) con fuel (f, n0) (loopAt P f id) (S s k) N = some (roundF S ret k (step k s l[k])))
    (hI : ∀ s k (hk : k < l.length), Inv s k → ∀ s', step k s l[k] = .ok s' → Inv s' (k + 1))
    (h2 : ∀ s, Inv s l.length → sxB P (lp s l.length) con fuel (f, n0) (loopAt P f id) (S s l.length) N = some (done s))
    (h0 : Inv s0 0) : LoopsOk P Rd.no (oneL n0 f id rs ts (S s0 0) (resR d d' done ret (foldE step l 0 s0)) g) := by
  refine oneL_ok hu hg fun hin e s1 h => ?_
  have key := loop_rule (P := P) (rd := Rd.no) (c := loopAt P f id) (n0 := n0) (fun p : { p : σ × Nat // Inv p.1 p.2 ∧ p.2 ≤ l.length } => S p.1.1 p.1.2) (fun p => resF done ret (foldE step (l.drop p.1.2) p.1.2 p.1.1)) (fun p => l.length - p.1.2) (fun p => ?_) ⟨(s0, 0), h0, Nat.zero_le _⟩
  · simp only [List.drop_zero] at key
    rw [resR_res h] at key
    exact key
  · obtain ⟨⟨s, k⟩, hi, hle⟩ := p
    simp only at hi hle ⊢
    by_cases hk : k < l.length
    · have h3 := h1 s k hk hi
      rw [List.drop_eq_getElem_cons hk, foldE_cons]
      cases hst : step k s l[k] with
      | ok s' =>
        left
        rw [hst] at h3
        obtain ⟨X, g1, g2⟩ := sxB_sound (f := (f, n0)) hP hc (hlp s k hi hle) hin h3
        exact ⟨X, ⟨(s', k + 1), hI s k hk hi s' hst, hk⟩, g1, g2, by show l.length - (k + 1) < l.length - k; omega, rfl⟩
      | error r =>
        right
        rw [hst] at h3
        obtain ⟨X, g1, g2⟩ := sxB_sound (f := (f, n0)) hP hc (hlp s k hi hle) hin h3
        exact ⟨X, (hr r).1, (hr r).2, g1, g2⟩
    · have hk' : k = l.length := by omega
      subst hk'
      right
      obtain ⟨X, g1, g2⟩ := sxB_sound (f := (f, n0)) hP hc (hlp s _ hi (Nat.le_refl _)) hin (h2 s hi)
      rw [List.drop_eq_nil_of_le (Nat.le_refl _), foldE_nil]
      exact ⟨X, (hd s).1, (hd s).2, g1, g2⟩
theorem fold_ok {σ α ρ : Type} {con : PCon} {loops g : Loops} {n0 : Nat} {f : FuncId} {id : Nat} {rs : List Root} {ts : List Nat} {l : List α} {S : σ → Nat → St}
    {step : Nat → σ → α → Except ρ σ} {done : σ → Ex × St} {ret : ρ → Ex × St} {d : σ} {d' : ρ} {s0 : σ} (N : Ex → Option (List Root × List Nat)) (fuel : Nat) (Inv : σ → Nat → Prop) (hP : POk P) (hc : PConOk P Rd.no con) (hlp : LoopsOk P Rd.no loops)
    (hu : (loopsAt P f id).length = 1) (hg : LoopsOk P Rd.no g)
    (hd : ∀ s, (done s).1 ≠ .normal ∧ (done s).1.deep = true) (hr : ∀ r, (ret r).1 ≠ .normal ∧ (ret r).1.deep = true)
    (h1 : ∀ s k (hk : k < l.length), Inv s k → sxB P loops con fuel (f, n0) (loopAt P f id) (S s k) N = some (roundF S ret k (step k s l[k])))
    (hI : ∀ s k (hk : k < l.length), Inv s k → ∀ s', step k s l[k] = .ok s' → Inv s' (k + 1))
    (h2 : ∀ s, Inv s l.length → sxB P loops con fuel (f, n0) (loopAt P f id) (S s l.length) N = some (done s))
    (h0 : Inv s0 0) : LoopsOk P Rd.no (oneL n0 f id rs ts (S s0 0) (resR d d' done ret (foldE step l 0 s0)) g) :=
  fold_okL (lp := fun _ _ => loops) N fuel Inv hP hc (fun _ _ _ _ => hlp) hu hg hd hr h1 hI h2 h0
theorem foldE_inv {σ α ρ : Type} {step : Nat → σ → α → Except ρ σ} (Inv : σ → Nat → Prop) : ∀ (l : List α) (k : Nat) (s : σ) {s' : σ}, (∀ s i (h : i < l.length) s', Inv s (k + i) → step (k + i) s l[i] = .ok s' → Inv s' (k + i + 1)) → Inv s k → foldE step l k s = .ok s' → Inv s' (k + l.length)
  | [], k, s, s', _, h0, h => by cases h; exact h0
  | a :: l, k, s, s', hs, h0, h => by
    rw [foldE_cons] at h
    split at h
    · rename_i s1 h1
      have h2 := hs s 0 (Nat.zero_lt_succ _) s1 h0 h1
      have := foldE_inv Inv l (k + 1) s1 (fun s i hi s' hi' hst => by
        have h3 := hs s (i + 1) (Nat.succ_lt_succ hi) s' (by rwa [show k + (i + 1) = k + 1 + i by omega]) (by rw [show k + (i + 1) = k + 1 + i by omega]; exact hst)
        rwa [show k + (i + 1) + 1 = k + 1 + i + 1 by omega] at h3) h2 h
      rwa [show k + 1 + l.length = k + (l.length + 1) by omega] at this
    · cases h
/-- if every round goes well, from a state that the rounds before left, all do -/
theorem foldE_ok {σ α ρ : Type} {step : Nat → σ → α → Except ρ σ} (T : Nat → σ) : ∀ (l : List α) (k : Nat), (∀ i (h : i < l.length), step (k + i) (T (k + i)) l[i] = .ok (T (k + i + 1))) → foldE step l k (T k) = .ok (T (k + l.length))
  | [], k, _ => rfl
  | a :: l, k, hs => by
    rw [foldE_cons, show step k (T k) a = .ok (T (k + 1)) from hs 0 (Nat.zero_lt_succ _)]
    show foldE step l (k + 1) (T (k + 1)) = _
    rw [foldE_ok T l (k + 1) fun i hi => by
      have := hs (i + 1) (Nat.succ_lt_succ hi)
      rwa [show k + (i + 1) = k + 1 + i by omega] at this]
    rw [show k + 1 + l.length = k + (a :: l).length by simp; omega]
/-- what an outcome comes to, with its parts az they stand in a printed tree -/
theorem exOk_ok {σ ρ : Type} (s : σ) : exOk (ρ := ρ) (.ok s) = true := rfl
theorem exOk_err {σ ρ : Type} (r : ρ) : exOk (σ := σ) (.error r) = false := rfl

end Go.SX

/-
  Units: what a round of Resolve does, and the table of its loops.
-/
namespace Go.Proofs.Ytmcejefeloljiaa
set_option linter.unusedSimpArgs false
set_option linter.unusedVariables false
open Go.RowKit Nm Go.SX

def onceS (l : List unitT.den) (k : Nat) (s : Unit) (u : unitT.den) : Except Int Unit := bif findF u.1 l != (k : Int) then .error 111 else .ok ()
def inM (n : Int) : Bool := decide (n ≥ 1) && decide (n ≤ 1000000)
/-- the scale of a unit -/
def scU (u : unitT.den) : Rt := ⟨u.2.2.2.2.2.1.1, u.2.2.2.2.2.1.2.1, u.2.2.2.2.2.1.2.2.1⟩
/-- a unit with another base and scale -/
def mkU (u : unitT.den) (b : Int) (r : Rt) : unitT.den := (u.1, u.2.1, u.2.2.1, u.2.2.2.1, b, (r.neg, r.n, r.d, ()), ())
def stepU (l : List unitT.den) (k : Nat) (x : List unitT.den) (u : unitT.den) : Except Int unitT.den :=
  bif eqN u.2.1 (bs []) then
    bif u.2.2.1 == 0 && u.2.2.2.1 == 0 then .ok (mkU u k (newR 1 1).1) else .error 90
  else bif inM u.2.2.1 && inM u.2.2.2.1 then
    bif decide (findF u.2.1 l < 0) || decide (findF u.2.1 l ≥ k) then .error 110
    else bif (newR u.2.2.1 u.2.2.2.1).2 != 0 then .error (newR u.2.2.1 u.2.2.2.1).2
    else bif (mulR (scU (x.getD (findF u.2.1 l).toNat unitT.dflt)) (newR u.2.2.1 u.2.2.2.1).1).2 != 0 then .error (mulR (scU (x.getD (findF u.2.1 l).toNat unitT.dflt)) (newR u.2.2.1 u.2.2.2.1).1).2
    else .ok (mkU u (x.getD (findF u.2.1 l).toNat unitT.dflt).2.2.2.2.1 (mulR (scU (x.getD (findF u.2.1 l).toNat unitT.dflt)) (newR u.2.2.1 u.2.2.2.1).1).1)
  else .error 90
def stepS (l : List unitT.den) (k : Nat) (x : List unitT.den) (u : unitT.den) : Except Int (List unitT.den) :=
  match stepU l k x u with
  | .ok y => .ok (x ++ [y])
  | .error e => .error e
def reR (l : List unitT.den) (e : Int) : Ex × St := (.ret, ⟨anys 2 ++ [.val (.slice none 0 0), .val (.int .i64 e)] ++ anys 98, [.cells [.dsl unitT l] 38 false], []⟩)
def reAD (l : List unitT.den) (_ : Unit) : Ex × St := (.exit 0, ⟨anys 1 ++ [.ptr 0 0, .val (.slice none 0 0)] ++ anys 1 ++ [.clo (.func 73) [] [.ptr 0 0]] ++ anys 97, [.cells [.dsl unitT l] 38 false], []⟩)
def reBD (l x : List unitT.den) : Ex × St := (.exit 2, ⟨anys 2 ++ [.vec 1] ++ anys 99, [.cells [.dsl unitT l] 38 false, .vec unitT x], []⟩)
noncomputable def reL (l : List unitT.den) : Loops :=
  oneL 0 36 5 [.f 0] reAK ((fun _ k => reAS l k) () 0) (resR () 0 (reAD l) (reR l) (foldE (onceS l) l 0 ()))
    (oneL 0 36 11 [.f 0, .v 2 unitT] reBK (reBS l [] 0) (resR [] 0 (reBD l) (reR l) (foldE (stepS l) l 0 [])) noL)

end Go.Proofs.Ytmcejefeloljiaa

/-
  What Resolve comes to.
-/
namespace Go.Proofs.Ytmcejefeloljiaa
open Go.RowKit Nm Go.SX

set_option maxRecDepth 100000 in
theorem T_resolve (l : List unitT.den) : sxE Try.prog (reL l) uCon 60 36 [.dsl unitT l] =
    bif decide ((↑l.length : Int) > 32) then
      some
        (OutE.ret
          (SV.tup
            [SV.dsl
                unitT
                [],
              SV.val (Value.int IntKind.i64 90)]))
    else
      bif
          eqS
            {
              t := anys 1 ++ [SV.ptr 0 0, SV.val (Value.slice none 0 0)] ++ anys 1 ++ [SV.clo (Fn.func 73) [] [SV.ptr 0 0]] ++ anys 11 ++ [SV.dsl unitT l, SV.val (Value.int IntKind.i64 (↑l.length : Int)), SV.val (Value.int IntKind.i64 0)] ++ anys 83,
              m :=
                [Blk.cells
                    [SV.dsl
                        unitT
                        l]
                    38 false],
              d := [] }
            (reAS l 0) then
        bif exOk (foldE (onceS l) l 0 ()) then
          bif
              eqS
                {
                  t := anys 1 ++ [SV.ptr 0 0, SV.vec 1] ++ anys 1 ++ [SV.clo (Fn.func 73) [] [SV.ptr 0 0]] ++ anys 25 ++ [SV.dsl unitT l, SV.val (Value.int IntKind.i64 (↑l.length : Int)), SV.val (Value.int IntKind.i64 0)] ++ anys 69,
                  m :=
                    [Blk.cells
                        [SV.dsl
                            unitT
                            l]
                        38 false,
                      Blk.vec
                        unitT
                        []],
                  d := [] }
                (reBS l [] 0) then
            bif exOk (foldE (stepS l) l 0 []) then
              some
                (OutE.ret
                  (SV.tup
                    [SV.dsl
                        unitT
                        (exV [] (foldE (stepS l) l 0 [])),
                      SV.val (Value.int IntKind.i64 0)]))
            else
              some
                (OutE.ret
                  (SV.tup
                    [SV.dsl
                        unitT
                        [],
                      SV.val (Value.int IntKind.i64 (exE 0 (foldE (stepS l) l 0 [])))]))
          else none
        else
          some
            (OutE.ret
              (SV.tup
                [SV.dsl
                    unitT
                    [],
                  SV.val (Value.int IntKind.i64 (exE 0 (foldE (onceS l) l 0 ())))]))
      else none := by kernel_rfl
set_option maxRecDepth 100000 in
theorem T_resolve0 (l : List unitT.den) : sxE Try.prog stopL uCon 60 36 [.dsl unitT l] =
    bif decide ((↑l.length : Int) > 32) then
      some
        (OutE.ret
          (SV.tup
            [SV.dsl
                unitT
                [],
              SV.val (Value.int IntKind.i64 90)]))
    else none := by kernel_rfl

end Go.Proofs.Ytmcejefeloljiaa

/-
  Units: what Resolve does.
-/
namespace Go.Proofs.Ytmcejefeloljiaa
set_option linter.unusedSimpArgs false
set_option linter.unusedVariables false
open Go.RowKit Nm Go.SX

theorem re_at : (loopsAt Try.prog 36 5).length = 1 ∧ (loopsAt Try.prog 36 11).length = 1 := ⟨by kernel_rfl, by kernel_rfl⟩
/-- a list of units as memory holds it -/
def wfU (l : List unitT.den) : Prop := l.length ≤ 32 ∧ ∀ k (h : k < l.length), (inI l[k].2.2.1 && inI l[k].2.2.2.1) = true
theorem wfU.le {l : List unitT.den} (h : wfU l) : l.length ≤ maxLen := Nat.le_trans h.1 (by decide)
theorem reA_tree (l : List unitT.den) (hl : l.length ≤ maxLen) (k : Nat) (hk : k < l.length) :
    sxB Try.prog noL uCon 60 (36, 0) (loopAt Try.prog 36 5) (reAS l k) reAN = some (roundF (fun _ k => reAS l k) (reR l) k (onceS l k () l[k])) := by
  rw [T_reA]
  have hk' : decide ((k : Int) < (l.length : Int)) = true := decide_eq_true (by omega)
  have hb : lenB l = true := decide_eq_true hl
  simp only [hk', inB_nat hk, getD_get hk, wrapN (Nat.le_trans hk hl), hb, cond_true]
  unfold onceS
  cases findF l[k].1 l != (k : Int) <;> rfl
theorem reA_end (l : List unitT.den) : sxB Try.prog noL uCon 60 (36, 0) (loopAt Try.prog 36 5) (reAS l l.length) reAN = some (reAD l ()) := by
  rw [T_reA, decide_eq_false (by omega : ¬ (l.length : Int) < l.length)]
  rfl
/-- texts of a scale that memory has -/
def szU (u : unitT.den) : Bool := szB (scU u).n && szB (scU u).d
theorem new_sz (n d : Int) : szR (newR n d).1 = true := by
  unfold newR
  split
  · rfl
  · exact resO_sz fun r h => over_sz _ _ h
theorem mulO_sz (a b : Rt) {r : Rt} (h : mulO a b = some r) : szR r = true := by
  unfold mulO at h
  rw [Option.bind_eq_some_iff] at h
  obtain ⟨n, _, h⟩ := h
  rw [Option.bind_eq_some_iff] at h
  obtain ⟨d, _, h⟩ := h
  exact over_sz _ _ h
theorem mul_sz (a b : Rt) : szR (mulR a b).1 = true := by
  unfold mulR both
  split
  · split
    · exact resO_sz fun r h => mulO_sz a b h
    · rfl
  · rfl
theorem inB_mid {z : Int} {n : Nat} (h1 : decide (z < 0) = false) (h2 : decide (z ≥ (n : Int)) = false) : inB z n = true := by
  have h1 := of_decide_eq_false h1
  have h2 := of_decide_eq_false h2
  unfold inB
  rw [Bool.and_eq_true, decide_eq_true_eq, decide_eq_true_eq]
  omega
theorem getD_mid {α : Type} {z : Int} {l : List α} (d : α) (h : inB z l.length = true) {p : α → Prop} (hp : ∀ i (h : i < l.length), p l[i]) : p (l.getD z.toNat d) := by
  unfold inB at h
  rw [Bool.and_eq_true, decide_eq_true_eq, decide_eq_true_eq] at h
  rw [List.getD_eq_getElem?_getD, List.getElem?_eq_getElem h.2]
  exact hp _ h.2
theorem reB_tree (l : List unitT.den) (hw : wfU l) (x : List unitT.den) (k : Nat) (hk : k < l.length) (hx : x.length = k) (hs : ∀ i (h : i < x.length), szU x[i] = true) :
    sxB Try.prog noL uCon 60 (36, 0) (loopAt Try.prog 36 11) (reBS l x k) reBN = some (roundF (reBS l) (reR l) k (stepS l k x l[k])) := by
  rw [T_reB]
  have hk' : decide ((k : Int) < (l.length : Int)) = true := decide_eq_true (by omega)
  have hb : lenB l = true := decide_eq_true hw.le
  have hlen : ∀ y : unitT.den, decide (x.length + [y].length ≤ 1048576) = true := fun y => decide_eq_true (by rw [hx]; have := hw.1; simp only [List.length_singleton]; omega)
  simp only [hk', inB_nat hk, getD_get hk, wrapN (Nat.le_trans hk hw.le), hb, hw.2 k hk, cond_true, eqLN, hlen]
  generalize hu : l[k] = u
  unfold stepS stepU inM
  cases h1 : eqN u.2.1 (bs []) with
  | true =>
    simp only [cond_true]
    cases h2 : (u.2.2.1 == 0) <;> cases h3 : (u.2.2.2.1 == 0) <;> simp only [Bool.not_true, Bool.not_false, cond_true, cond_false, Bool.and_true, Bool.and_false] <;> rfl
  | false =>
    simp only [cond_false, Bool.not_false, cond_true]
    cases a1 : decide (u.2.2.1 ≥ 1) <;> cases a2 : decide (u.2.2.1 ≤ 1000000) <;> cases a3 : decide (u.2.2.2.1 ≥ 1) <;> cases a4 : decide (u.2.2.2.1 ≤ 1000000) <;> try rfl
    simp only [cond_true, Bool.and_self, Bool.not_true, cond_false]
    cases b1 : decide (findF u.2.1 l < 0) with
    | true => rfl
    | false =>
      cases b2 : decide (findF u.2.1 l ≥ (k : Int)) with
      | true => rfl
      | false =>
        simp only [cond_false, Bool.or_self]
        cases b3 : (newR u.2.2.1 u.2.2.2.1).2 != 0 with
        | true => rfl
        | false =>
          have b4 : inB (findF u.2.1 l) x.length = true := inB_mid b1 (by rw [hx]; exact b2)
          have b5 : szU (x.getD (findF u.2.1 l).toNat unitT.dflt) = true := getD_mid _ b4 (p := fun y => szU y = true) hs
          have b6 : (szB (x.getD (findF u.2.1 l).toNat unitT.dflt).2.2.2.2.2.1.2.1 && szB (x.getD (findF u.2.1 l).toNat unitT.dflt).2.2.2.2.2.1.2.2.1) = true := b5
          have b7 : (szB (newR u.2.2.1 u.2.2.2.1).1.n && szB (newR u.2.2.1 u.2.2.2.1).1.d) = true := new_sz _ _
          simp only [cond_false, b4, b6, b7, cond_true, Bool.and_self]
          have b8 : (⟨(x.getD (findF u.2.1 l).toNat unitT.dflt).2.2.2.2.2.1.1, (x.getD (findF u.2.1 l).toNat unitT.dflt).2.2.2.2.2.1.2.1, (x.getD (findF u.2.1 l).toNat unitT.dflt).2.2.2.2.2.1.2.2.1⟩ : Rt) = scU (x.getD (findF u.2.1 l).toNat unitT.dflt) := rfl
          rw [b8]
          cases (mulR (scU (x.getD (findF u.2.1 l).toNat unitT.dflt)) (newR u.2.2.1 u.2.2.2.1).1).2 != 0 <;> rfl
theorem reB_end (l x : List unitT.den) : sxB Try.prog noL uCon 60 (36, 0) (loopAt Try.prog 36 11) (reBS l x l.length) reBN = some (reBD l x) := by
  rw [T_reB, decide_eq_false (by omega : ¬ (l.length : Int) < l.length)]
  rfl
def xOk (x : List unitT.den) : Prop := ∀ i (h : i < x.length), szU x[i] = true
theorem xOk_push {x : List unitT.den} {y : unitT.den} (h : xOk x) (hy : szU y = true) : xOk (x ++ [y]) := by
  intro i hi
  by_cases c : i < x.length
  · rw [List.getElem_append_left c]
    exact h i c
  · have : i = x.length := by simp at hi; omega
    subst this
    simpa using hy
theorem step_sz {l : List unitT.den} {k : Nat} {x : List unitT.den} {u y : unitT.den} (h : stepU l k x u = .ok y) : szU y = true := by
  unfold stepU at h
  revert h
  cases eqN u.2.1 (bs []) with
  | true =>
    cases (u.2.2.1 == 0 && u.2.2.2.1 == 0) with
    | true => intro h; cases h; exact new_sz 1 1
    | false => intro h; cases h
  | false =>
    cases (inM u.2.2.1 && inM u.2.2.2.1) with
    | false => intro h; cases h
    | true =>
      cases (decide (findF u.2.1 l < 0) || decide (findF u.2.1 l ≥ k)) with
      | true => intro h; cases h
      | false =>
        simp only [cond_true, cond_false]
        cases (newR u.2.2.1 u.2.2.2.1).2 != 0 with
        | true => intro h; cases h
        | false =>
          simp only [cond_false]
          cases (mulR (scU (x.getD (findF u.2.1 l).toNat unitT.dflt)) (newR u.2.2.1 u.2.2.2.1).1).2 != 0 with
          | true => intro h; cases h
          | false => intro h; cases h; exact mul_sz _ _
theorem reL_ok (l : List unitT.den) (hw : wfU l) : LoopsOk Try.prog Rd.no (reL l) := by
  refine fold_ok (σ := Unit) (ρ := Int) (S := fun _ k => reAS l k) reAN 60 (fun _ _ => True) pOk uCon_ok noL_ok re_at.1 (fold_ok (S := reBS l) reBN 60 (fun x k => x.length = k ∧ xOk x) pOk uCon_ok noL_ok re_at.2 noL_ok ?_ ?_ ?_ ?_ ?_ ?_) ?_ ?_ ?_ ?_ ?_ ?_
  · exact fun s => ⟨by simp [reBD], rfl⟩
  · exact fun s => ⟨by simp [reR], rfl⟩
  · exact fun s k hk hi => reB_tree l hw s k hk hi.1 hi.2
  · intro s k hk hi s' hst
    unfold stepS at hst
    split at hst
    · rename_i y hy
      cases hst
      exact ⟨by rw [List.length_append, hi.1]; rfl, xOk_push hi.2 (step_sz hy)⟩
    · cases hst
  · exact fun s hi => reB_end l s
  · exact ⟨rfl, fun i h => absurd h (Nat.not_lt_zero _)⟩
  · exact fun s => ⟨by simp [reAD], rfl⟩
  · exact fun s => ⟨by simp [reR], rfl⟩
  · exact fun s k hk hi => reA_tree l hw.le k hk
  · exact fun s k hk hi s' hst => trivial
  · exact fun s hi => reA_end l
  · trivial
/-- what Resolve answers -/
def resolveF (l : List unitT.den) : List unitT.den × Int :=
  bif decide (l.length > 32) then ([], 90) else
  match foldE (onceS l) l 0 () with
  | .error e => ([], e)
  | .ok _ => match foldE (stepS l) l 0 [] with
    | .error e => ([], e)
    | .ok x => (x, 0)
/-- a list of units as memory holds it -/
def wfV (l : List unitT.den) : Prop := l.length ≤ maxLen ∧ ∀ k (h : k < l.length), (inI l[k].2.2.1 && inI l[k].2.2.2.1) = true
theorem resolve_plain (l : List unitT.den) (hw : wfV l) : HasBody Try.prog 36 ∧ DPlain Try.prog 36 [.dsl unitT l] (.ret (.tup [.dsl unitT (resolveF l).1, .val (.int .i64 (resolveF l).2)])) := by
  unfold resolveF
  by_cases h : l.length > 32
  · refine sxE_sound pOk uCon_ok stopL_ok 60 ?_
    rw [T_resolve0, decide_eq_true (by omega : (l.length : Int) > 32), decide_eq_true h]
    rfl
  · refine sxE_sound pOk uCon_ok (reL_ok l ⟨by omega, hw.2⟩) 60 ?_
    rw [T_resolve, decide_eq_false (by omega : ¬ (l.length : Int) > 32), decide_eq_false h]
    simp only [cond_false]
    rw [eqS_cond]
    · cases foldE (onceS l) l 0 () with
      | error e => rfl
      | ok s =>
        simp only [exOk_ok, cond_true]
        rw [eqS_cond]
        · cases foldE (stepS l) l 0 [] <;> rfl
        · kernel_rfl
    · kernel_rfl

end Go.Proofs.Ytmcejefeloljiaa

/-
  Units: the loops of Few, Same and of the equality of slices.
-/
namespace Go.Proofs.Ytmcejefeloljiaa
set_option linter.unusedSimpArgs false
set_option linter.unusedVariables false
open Go.RowKit Nm Go.SX

def feS (l : List unitT.den) (k : Nat) : St := ⟨[.dsl unitT l] ++ anys 2 ++ [.val (.int .i64 k)] ++ anys 27, [], []⟩
def feN : Ex → Option (List Root × List Nat)
  | .normal => some ([], [1, 2, 4, 5, 6, 7, 8, 9, 10, 11, 12, 13, 14, 15, 16, 17, 18, 19, 20, 21, 22, 23, 24, 25, 26, 27, 28, 29, 30])
  | .ret => some ([], [0, 1, 3, 4, 5, 6, 7, 8, 9, 10, 11, 12, 13, 14, 15, 16, 17, 18, 19, 20, 21, 22, 23, 24, 25, 26, 27, 28, 29, 30])
  | _ => some ([], [1, 2, 3, 4, 5, 6, 7, 8, 9, 10, 11, 12, 13, 14, 15, 16, 17, 18, 19, 20, 21, 22, 23, 24, 25, 26, 27, 28, 29, 30])
def feK : List Nat := [1, 2, 4, 5, 6, 7, 8, 9, 10, 11, 12, 13, 14, 15, 16, 17, 18, 19, 20, 21, 22, 23, 24, 25, 26, 27, 28, 29, 30]
def saS (a b : List unitT.den) (k : Nat) : St := ⟨[.dsl unitT a, .dsl unitT b] ++ anys 3 ++ [.val (.int .i64 k)] ++ anys 20, [], []⟩
def saN : Ex → Option (List Root × List Nat)
  | .normal => some ([], [2, 3, 4, 6, 7, 8, 9, 10, 11, 12, 13, 14, 15, 16, 17, 18, 19, 20, 21, 22, 23, 24, 25])
  | .ret => some ([], [0, 1, 2, 3, 5, 6, 7, 8, 9, 10, 11, 12, 13, 14, 15, 16, 17, 18, 19, 20, 21, 22, 23, 24, 25])
  | _ => some ([], [0, 1, 2, 3, 4, 5, 6, 7, 8, 9, 10, 11, 12, 13, 14, 15, 16, 17, 18, 19, 20, 21, 22, 23, 24, 25])
def saK : List Nat := [2, 3, 4, 6, 7, 8, 9, 10, 11, 12, 13, 14, 15, 16, 17, 18, 19, 20, 21, 22, 23, 24, 25]
def euS (a b : List unitT.den) (k : Nat) : St := ⟨[.dsl unitT a, .dsl unitT b] ++ anys 10 ++ [.val (.int .i64 a.length), .val (.int .i64 k)] ++ anys 12, [], []⟩
def euN : Ex → Option (List Root × List Nat)
  | .normal => some ([], [2, 3, 4, 5, 6, 7, 8, 9, 10, 11, 14, 15, 16, 17, 18, 19, 20, 21, 22, 23, 24, 25])
  | .ret => some ([], [0, 1, 2, 3, 5, 6, 7, 8, 9, 10, 11, 12, 13, 14, 15, 16, 17, 18, 19, 20, 21, 22, 23, 24, 25])
  | _ => some ([], [0, 1, 2, 3, 4, 5, 6, 7, 8, 9, 10, 11, 12, 13, 14, 15, 16, 17, 18, 19, 20, 21, 22, 23, 24, 25])
def euK : List Nat := [2, 3, 4, 5, 6, 7, 8, 9, 10, 11, 14, 15, 16, 17, 18, 19, 20, 21, 22, 23, 24, 25]

end Go.Proofs.Ytmcejefeloljiaa

/-
  What rounds of Few, Same and of the equality of slices come to.
-/
namespace Go.Proofs.Ytmcejefeloljiaa
set_option linter.unusedVariables false
open Go.RowKit Nm Go.SX

set_option maxRecDepth 100000 in
theorem T_fe (l : List unitT.den) (k : Nat) : sxB Try.prog noL uCon 60 (35, 0) (loopAt Try.prog 35 2) (feS l k) feN =
    bif decide ((↑k : Int) < (↑l.length : Int)) then
      bif inB (↑k : Int) l.length then
        bif
            decide
              ((↑(ByteArray.size (l.getD (↑k : Int).toNat unitT.dflt).snd.snd.snd.snd.snd.fst.snd.fst) : Int) > 40) then
          some
            (Ex.ret,
              {
                t := anys 2 ++ [SV.val (Value.bool false)] ++ anys 28,
                m := [], d := [] })
        else
          bif inB (↑k : Int) l.length then
            bif
                decide
                  ((↑(ByteArray.size (l.getD (↑k : Int).toNat unitT.dflt).snd.snd.snd.snd.snd.fst.snd.snd.fst) : Int) >
                    40) then
              some
                (Ex.ret,
                  {
                    t := anys 2 ++ [SV.val (Value.bool false)] ++ anys 28,
                    m := [], d := [] })
            else
              some
                (Ex.normal,
                  {
                    t := [SV.dsl unitT l] ++ anys 2 ++ [SV.val (Value.int IntKind.i64 (IntKind.i64.wrap ((↑k : Int) + 1)))] ++ anys 27,
                    m := [], d := [] })
          else none
      else none
    else
      some
        (Ex.exit 0,
          {
            t := [SV.dsl unitT l] ++ anys 30,
            m := [], d := [] }) := by kernel_rfl
set_option maxRecDepth 100000 in
theorem T_sa (a b : List unitT.den) (k : Nat) : sxB Try.prog noL uCon 60 (38, 0) (loopAt Try.prog 38 4) (saS a b k) saN =
    bif decide ((↑k : Int) < (↑a.length : Int)) then
      bif inB (↑k : Int) a.length then
        bif inB (↑k : Int) b.length then
          bif
              !((a.getD (↑k : Int).toNat unitT.dflt).fst == (b.getD (↑k : Int).toNat unitT.dflt).fst &&
                  ((a.getD (↑k : Int).toNat unitT.dflt).snd.fst == (b.getD (↑k : Int).toNat unitT.dflt).snd.fst &&
                    ((a.getD (↑k : Int).toNat unitT.dflt).snd.snd.fst == (b.getD (↑k : Int).toNat unitT.dflt).snd.snd.fst &&
                      ((a.getD (↑k : Int).toNat unitT.dflt).snd.snd.snd.fst ==
                          (b.getD (↑k : Int).toNat unitT.dflt).snd.snd.snd.fst &&
                        ((a.getD (↑k : Int).toNat unitT.dflt).snd.snd.snd.snd.fst ==
                            (b.getD (↑k : Int).toNat unitT.dflt).snd.snd.snd.snd.fst &&
                          ((a.getD (↑k : Int).toNat unitT.dflt).snd.snd.snd.snd.snd.fst.fst ==
                                (b.getD (↑k : Int).toNat unitT.dflt).snd.snd.snd.snd.snd.fst.fst &&
                              ((a.getD (↑k : Int).toNat unitT.dflt).snd.snd.snd.snd.snd.fst.snd.fst ==
                                  (b.getD (↑k : Int).toNat unitT.dflt).snd.snd.snd.snd.snd.fst.snd.fst &&
                                ((a.getD (↑k : Int).toNat unitT.dflt).snd.snd.snd.snd.snd.fst.snd.snd.fst ==
                                    (b.getD (↑k : Int).toNat unitT.dflt).snd.snd.snd.snd.snd.fst.snd.snd.fst &&
                                  true)) &&
                            true)))))) then
            some
              (Ex.ret,
                {
                  t := anys 4 ++ [SV.val (Value.bool false)] ++ anys 21,
                  m := [], d := [] })
          else
            some
              (Ex.normal,
                {
                  t := [SV.dsl unitT a, SV.dsl unitT b] ++ anys 3 ++ [SV.val (Value.int IntKind.i64 (IntKind.i64.wrap ((↑k : Int) + 1)))] ++ anys 20,
                  m := [], d := [] })
        else none
      else none
    else
      some
        (Ex.exit 0,
          {
            t := anys 26,
            m := [], d := [] }) := by kernel_rfl
set_option maxRecDepth 100000 in
theorem T_eu (a b : List unitT.den) (k : Nat) : sxB Try.prog noL uCon 60 (78, 0) (loopAt Try.prog 78 4) (euS a b k) euN =
    bif decide ((↑k : Int) < (↑a.length : Int)) then
      bif inB (↑k : Int) a.length then
        bif inB (↑k : Int) b.length then
          bif
              !((a.getD (↑k : Int).toNat unitT.dflt).fst == (b.getD (↑k : Int).toNat unitT.dflt).fst &&
                  ((a.getD (↑k : Int).toNat unitT.dflt).snd.fst == (b.getD (↑k : Int).toNat unitT.dflt).snd.fst &&
                    ((a.getD (↑k : Int).toNat unitT.dflt).snd.snd.fst == (b.getD (↑k : Int).toNat unitT.dflt).snd.snd.fst &&
                      ((a.getD (↑k : Int).toNat unitT.dflt).snd.snd.snd.fst ==
                          (b.getD (↑k : Int).toNat unitT.dflt).snd.snd.snd.fst &&
                        ((a.getD (↑k : Int).toNat unitT.dflt).snd.snd.snd.snd.fst ==
                            (b.getD (↑k : Int).toNat unitT.dflt).snd.snd.snd.snd.fst &&
                          ((a.getD (↑k : Int).toNat unitT.dflt).snd.snd.snd.snd.snd.fst.fst ==
                                (b.getD (↑k : Int).toNat unitT.dflt).snd.snd.snd.snd.snd.fst.fst &&
                              ((a.getD (↑k : Int).toNat unitT.dflt).snd.snd.snd.snd.snd.fst.snd.fst ==
                                  (b.getD (↑k : Int).toNat unitT.dflt).snd.snd.snd.snd.snd.fst.snd.fst &&
                                ((a.getD (↑k : Int).toNat unitT.dflt).snd.snd.snd.snd.snd.fst.snd.snd.fst ==
                                    (b.getD (↑k : Int).toNat unitT.dflt).snd.snd.snd.snd.snd.fst.snd.snd.fst &&
                                  true)) &&
                            true)))))) then
            some
              (Ex.ret,
                {
                  t := anys 4 ++ [SV.val (Value.bool false)] ++ anys 21,
                  m := [], d := [] })
          else
            some
              (Ex.normal,
                {
                  t := [SV.dsl unitT a, SV.dsl unitT b] ++ anys 10 ++ [SV.val (Value.int IntKind.i64 (↑a.length : Int)), SV.val (Value.int IntKind.i64 (IntKind.i64.wrap ((↑k : Int) + 1)))] ++ anys 12,
                  m := [], d := [] })
        else none
      else none
    else
      some
        (Ex.exit 0,
          {
            t := anys 26,
            m := [], d := [] }) := by kernel_rfl

end Go.Proofs.Ytmcejefeloljiaa

/-
  Units: Few, Same and the equality of slices; a table with Resolve.
-/
namespace Go.Proofs.Ytmcejefeloljiaa
set_option linter.unusedSimpArgs false
set_option linter.unusedVariables false
open Go.RowKit Nm Go.SX

def few1U (u : unitT.den) : Bool := !decide (((scU u).n.size : Int) > 40) && !decide (((scU u).d.size : Int) > 40)
def eqU (x y : unitT.den) : Bool :=
  x.1 == y.1 && (x.2.1 == y.2.1 && (x.2.2.1 == y.2.2.1 && (x.2.2.2.1 == y.2.2.2.1 && (x.2.2.2.2.1 == y.2.2.2.2.1 && (x.2.2.2.2.2.1.1 == y.2.2.2.2.2.1.1 && (x.2.2.2.2.2.1.2.1 == y.2.2.2.2.2.1.2.1 && (x.2.2.2.2.2.1.2.2.1 == y.2.2.2.2.2.1.2.2.1 && true)) && true)))))
theorem eqU_iff (x y : unitT.den) : eqU x y = true ↔ x = y := by
  obtain ⟨a, b, n, d, c, ⟨s, p, q, ⟨⟩⟩, ⟨⟩⟩ := x
  obtain ⟨a', b', n', d', c', ⟨s', p', q', ⟨⟩⟩, ⟨⟩⟩ := y
  have h1 := beqB a a'
  have h2 := beqB b b'
  have h3 := beqB p p'
  have h4 := beqB q q'
  unfold eqU
  simp only [Bool.and_true, Bool.and_eq_true, h1, h2, h3, h4, decide_eq_true_eq, beq_iff_eq, Prod.mk.injEq, and_true]
def guardS (q : Nat → unitT.den → Bool) (k : Nat) (s : Unit) (u : unitT.den) : Except Unit Unit := bif q k u then .ok () else .error ()
theorem guard_iff (q : Nat → unitT.den → Bool) : ∀ (l : List unitT.den) (k : Nat), exOk (foldE (guardS q) l k ()) = true ↔ ∀ i (h : i < l.length), q (k + i) l[i] = true
  | [], k => ⟨fun _ i h => absurd h (Nat.not_lt_zero _), fun _ => rfl⟩
  | u :: l, k => by
    rw [foldE_cons]
    unfold guardS
    cases h : q k u with
    | false =>
      simp only [cond_false, exOk_err]
      exact ⟨fun h => (nomatch h), fun g => by rw [← h]; exact g 0 (Nat.zero_lt_succ _)⟩
    | true =>
      simp only [cond_true]
      have ih := guard_iff q l (k + 1)
      unfold guardS at ih
      rw [ih]
      constructor
      · intro g i hi
        cases i with
        | zero => exact h
        | succ i => rw [show k + (i + 1) = k + 1 + i by omega]; exact g i (Nat.lt_of_succ_lt_succ hi)
      · intro g i hi
        have := g (i + 1) (Nat.succ_lt_succ hi)
        rwa [show k + (i + 1) = k + 1 + i by omega] at this
def fewU (l : List unitT.den) : Bool := exOk (foldE (guardS fun _ => few1U) l 0 ()) && decide ((l.length : Int) ≤ 8)
theorem fewU_iff {l : List unitT.den} : fewU l = true ↔ l.length ≤ 8 ∧ ∀ i (h : i < l.length), (scU l[i]).n.size ≤ 40 ∧ (scU l[i]).d.size ≤ 40 := by
  unfold fewU
  rw [Bool.and_eq_true, guard_iff, decide_eq_true_eq]
  constructor
  · intro ⟨h1, h2⟩
    refine ⟨by omega, fun i hi => ?_⟩
    have := h1 i hi
    unfold few1U at this
    simp only [Bool.and_eq_true, Bool.not_eq_true', decide_eq_false_iff_not] at this
    omega
  · intro ⟨h1, h2⟩
    refine ⟨fun i hi => ?_, by omega⟩
    have := h2 i hi
    unfold few1U
    simp only [Bool.and_eq_true, Bool.not_eq_true', decide_eq_false_iff_not]
    omega
noncomputable def eqLU (a b : List unitT.den) : Bool := @decide (a = b) (Classical.propDecidable _)
theorem eqLU_iff {a b : List unitT.den} : eqLU a b = true ↔ a = b := by unfold eqLU; rw [@decide_eq_true_iff]
theorem eqLU_rfl (a : List unitT.den) : eqLU a a = true := eqLU_iff.2 rfl
def eqAt (b : List unitT.den) (k : Nat) (u : unitT.den) : Bool := eqU u (b.getD k unitT.dflt)
theorem same_iff {a b : List unitT.den} (h : a.length = b.length) : exOk (foldE (guardS (eqAt b)) a 0 ()) = eqLU a b := by
  rw [Bool.eq_iff_iff, guard_iff, eqLU_iff]
  constructor
  · intro g
    refine List.ext_getElem h fun i h1 h2 => ?_
    have := (eqU_iff _ _).1 (g i h1)
    rw [this, Nat.zero_add, List.getD_eq_getElem?_getD, List.getElem?_eq_getElem h2]
    rfl
  · rintro rfl i hi
    refine (eqU_iff _ _).2 ?_
    rw [Nat.zero_add, List.getD_eq_getElem?_getD, List.getElem?_eq_getElem hi]
    rfl
def feD (l : List unitT.den) (_ : Unit) : Ex × St := (.exit 0, ⟨[.dsl unitT l] ++ anys 30, [], []⟩)
def feR (_ : Unit) : Ex × St := (.ret, ⟨anys 2 ++ [.val (.bool false)] ++ anys 28, [], []⟩)
noncomputable def feL (l : List unitT.den) : Loops := oneL 0 35 2 [] feK ((fun _ k => feS l k) () 0) (resR () () (feD l) feR (foldE (guardS (fun _ => few1U)) l 0 ())) noL
theorem fe_at : (loopsAt Try.prog 35 2).length = 1 := by kernel_rfl
theorem fe_tree (l : List unitT.den) (hl : l.length ≤ maxLen) (k : Nat) (hk : k < l.length) :
    sxB Try.prog noL uCon 60 (35, 0) (loopAt Try.prog 35 2) (feS l k) feN = some (roundF (fun _ k => feS l k) feR k (guardS (fun _ => few1U) k () l[k])) := by
  rw [T_fe]
  have hk' : decide ((k : Int) < (l.length : Int)) = true := decide_eq_true (by omega)
  simp only [hk', inB_nat hk, getD_get hk, wrapN (Nat.le_trans hk hl), cond_true]
  unfold guardS few1U
  generalize l[k] = u
  show (bif decide (((scU u).n.size : Int) > 40) then _ else bif decide (((scU u).d.size : Int) > 40) then _ else _) = some (roundF _ _ _ (bif !decide (((scU u).n.size : Int) > 40) && !decide (((scU u).d.size : Int) > 40) then _ else _))
  cases decide (((scU u).n.size : Int) > 40) <;> cases decide (((scU u).d.size : Int) > 40) <;> rfl
theorem feL_ok (l : List unitT.den) (hl : l.length ≤ maxLen) : LoopsOk Try.prog Rd.no (feL l) := by
  refine fold_ok (σ := Unit) (ρ := Unit) (S := fun _ k => feS l k) feN 60 (fun _ _ => True) pOk uCon_ok noL_ok fe_at noL_ok ?_ ?_ ?_ ?_ ?_ ?_
  · exact fun s => ⟨by simp [feD], rfl⟩
  · exact fun s => ⟨by simp [feR], rfl⟩
  · exact fun s k hk hi => fe_tree l hl k hk
  · exact fun s k hk hi s' hst => trivial
  · intro s hi
    rw [T_fe, decide_eq_false (by omega : ¬ (l.length : Int) < l.length)]
    rfl
  · trivial
def saD (a b : List unitT.den) (_ : Unit) : Ex × St := (.exit 0, ⟨anys 26, [], []⟩)
def saR (_ : Unit) : Ex × St := (.ret, ⟨anys 4 ++ [.val (.bool false)] ++ anys 21, [], []⟩)
noncomputable def saL (a b : List unitT.den) : Loops := oneL 0 38 4 [] saK ((fun _ k => saS a b k) () 0) (resR () () (saD a b) saR (foldE (guardS (eqAt b)) a 0 ())) noL
theorem sa_at : (loopsAt Try.prog 38 4).length = 1 := by kernel_rfl
theorem sa_tree (a b : List unitT.den) (hl : a.length ≤ maxLen) (hab : a.length = b.length) (k : Nat) (hk : k < a.length) :
    sxB Try.prog noL uCon 60 (38, 0) (loopAt Try.prog 38 4) (saS a b k) saN = some (roundF (fun _ k => saS a b k) saR k (guardS (eqAt b) k () a[k])) := by
  rw [T_sa]
  have hk' : decide ((k : Int) < (a.length : Int)) = true := decide_eq_true (by omega)
  simp only [hk', inB_nat hk, getD_get hk, wrapN (Nat.le_trans hk hl), cond_true]
  have hk2 : k < b.length := hab ▸ hk
  simp only [inB_nat hk2, cond_true, Int.toNat_natCast]
  unfold guardS eqAt
  generalize b.getD k unitT.dflt = v
  generalize a[k] = u
  show (bif !eqU u v then _ else _) = _
  cases eqU u v <;> rfl
theorem saL_ok (a b : List unitT.den) (hl : a.length ≤ maxLen) (hab : a.length = b.length) : LoopsOk Try.prog Rd.no (saL a b) := by
  refine fold_ok (σ := Unit) (ρ := Unit) (S := fun _ k => saS a b k) saN 60 (fun _ _ => True) pOk uCon_ok noL_ok sa_at noL_ok ?_ ?_ ?_ ?_ ?_ ?_
  · exact fun s => ⟨by simp [saD], rfl⟩
  · exact fun s => ⟨by simp [saR], rfl⟩
  · exact fun s k hk hi => sa_tree a b hl hab k hk
  · exact fun s k hk hi s' hst => trivial
  · intro s hi
    rw [T_sa, decide_eq_false (by omega : ¬ (a.length : Int) < a.length)]
    rfl
  · trivial
def euD (a b : List unitT.den) (_ : Unit) : Ex × St := (.exit 0, ⟨anys 26, [], []⟩)
def euR (_ : Unit) : Ex × St := (.ret, ⟨anys 4 ++ [.val (.bool false)] ++ anys 21, [], []⟩)
noncomputable def euL (a b : List unitT.den) : Loops := oneL 0 78 4 [] euK ((fun _ k => euS a b k) () 0) (resR () () (euD a b) euR (foldE (guardS (eqAt b)) a 0 ())) noL
theorem eu_at : (loopsAt Try.prog 78 4).length = 1 := by kernel_rfl
theorem eu_tree (a b : List unitT.den) (hl : a.length ≤ maxLen) (hab : a.length = b.length) (k : Nat) (hk : k < a.length) :
    sxB Try.prog noL uCon 60 (78, 0) (loopAt Try.prog 78 4) (euS a b k) euN = some (roundF (fun _ k => euS a b k) euR k (guardS (eqAt b) k () a[k])) := by
  rw [T_eu]
  have hk' : decide ((k : Int) < (a.length : Int)) = true := decide_eq_true (by omega)
  simp only [hk', inB_nat hk, getD_get hk, wrapN (Nat.le_trans hk hl), cond_true]
  have hk2 : k < b.length := hab ▸ hk
  simp only [inB_nat hk2, cond_true, Int.toNat_natCast]
  unfold guardS eqAt
  generalize b.getD k unitT.dflt = v
  generalize a[k] = u
  show (bif !eqU u v then _ else _) = _
  cases eqU u v <;> rfl
theorem euL_ok (a b : List unitT.den) (hl : a.length ≤ maxLen) (hab : a.length = b.length) : LoopsOk Try.prog Rd.no (euL a b) := by
  refine fold_ok (σ := Unit) (ρ := Unit) (S := fun _ k => euS a b k) euN 60 (fun _ _ => True) pOk uCon_ok noL_ok eu_at noL_ok ?_ ?_ ?_ ?_ ?_ ?_
  · exact fun s => ⟨by simp [euD], rfl⟩
  · exact fun s => ⟨by simp [euR], rfl⟩
  · exact fun s k hk hi => eu_tree a b hl hab k hk
  · exact fun s k hk hi s' hst => trivial
  · intro s hi
    rw [T_eu, decide_eq_false (by omega : ¬ (a.length : Int) < a.length)]
    rfl
  · trivial

end Go.Proofs.Ytmcejefeloljiaa

/-
  What Few, Same and the equality of slices come to.
-/
namespace Go.Proofs.Ytmcejefeloljiaa
set_option linter.unusedVariables false
open Go.RowKit Nm Go.SX

set_option maxRecDepth 100000 in
theorem T_ufew (l : List unitT.den) : sxE Try.prog (feL l) uCon 60 35 [.dsl unitT l] =
    bif
        eqS
          {
            t := [SV.dsl unitT l] ++ anys 2 ++ [SV.val (Value.int IntKind.i64 0)] ++ anys 27,
            m := [], d := [] }
          (feS l 0) then
      bif exOk (foldE (guardS fun x => few1U) l 0 ()) then
        some (OutE.ret (SV.val (Value.bool (decide ((↑l.length : Int) ≤ 8)))))
      else some (OutE.ret (SV.val (Value.bool false)))
    else none := by kernel_rfl
set_option maxRecDepth 100000 in
theorem T_usame (a b : List unitT.den) : sxE Try.prog (saL a b) uCon 60 38 [.dsl unitT a, .dsl unitT b] =
    bif (↑a.length : Int) != (↑b.length : Int) then some (OutE.ret (SV.val (Value.bool false)))
    else
      bif
          eqS
            {
              t := [SV.dsl unitT a, SV.dsl unitT b] ++ anys 3 ++ [SV.val (Value.int IntKind.i64 0)] ++ anys 20,
              m := [], d := [] }
            (saS a b 0) then
        bif exOk (foldE (guardS (eqAt b)) a 0 ()) then some (OutE.ret (SV.val (Value.bool true)))
        else some (OutE.ret (SV.val (Value.bool false)))
      else none := by kernel_rfl
set_option maxRecDepth 100000 in
theorem T_usame0 (a b : List unitT.den) : sxE Try.prog stopL uCon 60 38 [.dsl unitT a, .dsl unitT b] =
    bif (↑a.length : Int) != (↑b.length : Int) then some (OutE.ret (SV.val (Value.bool false))) else none := by kernel_rfl
set_option maxRecDepth 100000 in
theorem T_ueql (a b : List unitT.den) : sxE Try.prog (euL a b) uCon 60 78 [.dsl unitT a, .dsl unitT b] =
    bif (↑a.length : Int) != (↑b.length : Int) then some (OutE.ret (SV.val (Value.bool false)))
    else
      bif
          eqS
            {
              t := [SV.dsl unitT a, SV.dsl unitT b] ++ anys 10 ++ [SV.val (Value.int IntKind.i64 (↑a.length : Int)), SV.val (Value.int IntKind.i64 0)] ++ anys 12,
              m := [], d := [] }
            (euS a b 0) then
        bif exOk (foldE (guardS (eqAt b)) a 0 ()) then some (OutE.ret (SV.val (Value.bool true)))
        else some (OutE.ret (SV.val (Value.bool false)))
      else none := by kernel_rfl
set_option maxRecDepth 100000 in
theorem T_ueql0 (a b : List unitT.den) : sxE Try.prog stopL uCon 60 78 [.dsl unitT a, .dsl unitT b] =
    bif (↑a.length : Int) != (↑b.length : Int) then some (OutE.ret (SV.val (Value.bool false))) else none := by kernel_rfl

end Go.Proofs.Ytmcejefeloljiaa

/-
  Units: contracts of Few, Same and of the equality of slices; a table with Resolve.
-/
namespace Go.Proofs.Ytmcejefeloljiaa
set_option linter.unusedSimpArgs false
set_option linter.unusedVariables false
open Go.RowKit Nm Go.SX

theorem fewU_plain (l : List unitT.den) (hl : l.length ≤ maxLen) : HasBody Try.prog 35 ∧ DPlain Try.prog 35 [.dsl unitT l] (.ret (.val (.bool (fewU l)))) := by
  refine sxE_sound pOk uCon_ok (feL_ok l hl) 60 ?_
  rw [T_ufew, eqS_cond]
  · unfold fewU
    cases exOk (foldE (guardS fun _ => few1U) l 0 ()) <;> rfl
  · kernel_rfl
theorem same_plain (a b : List unitT.den) (hl : a.length ≤ maxLen) : HasBody Try.prog 38 ∧ DPlain Try.prog 38 [.dsl unitT a, .dsl unitT b] (.ret (.val (.bool (eqLU a b)))) := by
  by_cases h : a.length = b.length
  · refine sxE_sound pOk uCon_ok (saL_ok a b hl h) 60 ?_
    rw [T_usame, show ((a.length : Int) != (b.length : Int)) = false by rw [h]; exact bne_self_eq_false _, cond_false, eqS_cond, same_iff h]
    · cases eqLU a b <;> rfl
    · kernel_rfl
  · refine sxE_sound pOk uCon_ok stopL_ok 60 ?_
    rw [T_usame0, show ((a.length : Int) != (b.length : Int)) = true by rw [bne_iff_ne]; omega]
    have : eqLU a b = false := by
      rw [← Bool.not_eq_true, eqLU_iff]
      exact fun e => h (by rw [e])
    rw [this]
    rfl
theorem equal_plain (a b : List unitT.den) (hl : a.length ≤ maxLen) : HasBody Try.prog 78 ∧ DPlain Try.prog 78 [.dsl unitT a, .dsl unitT b] (.ret (.val (.bool (eqLU a b)))) := by
  by_cases h : a.length = b.length
  · refine sxE_sound pOk uCon_ok (euL_ok a b hl h) 60 ?_
    rw [T_ueql, show ((a.length : Int) != (b.length : Int)) = false by rw [h]; exact bne_self_eq_false _, cond_false, eqS_cond, same_iff h]
    · cases eqLU a b <;> rfl
    · kernel_rfl
  · refine sxE_sound pOk uCon_ok stopL_ok 60 ?_
    rw [T_ueql0, show ((a.length : Int) != (b.length : Int)) = true by rw [bne_iff_ne]; omega]
    have : eqLU a b = false := by
      rw [← Bool.not_eq_true, eqLU_iff]
      exact fun e => h (by rw [e])
    rw [this]
    rfl
/-- as memory holds it -/
noncomputable def wfT (t : Ty) (x : t.den) : Bool := @decide (Wf t x) (Classical.propDecidable _)
theorem wfT_iff {t : Ty} {x : t.den} : wfT t x = true ↔ Wf t x := by unfold wfT; rw [@decide_eq_true_iff]
def asD (T t : Ty) (l : List t.den) : Option (List T.den) := if h : t = T then some (h ▸ l) else none
theorem asD_eq {T t : Ty} {l : List t.den} {l' : List T.den} (h : asD T t l = some l') : SV.dsl t l = .dsl T l' := by
  unfold asD at h
  split at h
  · rename_i e; subst e; cases h; rfl
  · cases h
theorem wf_inI {n : Int} (h : Wf (.int .i64) n) : inI n = true := by
  have := bounds_i64 h
  unfold inI
  rw [Bool.and_eq_true, decide_eq_true_eq, decide_eq_true_eq]
  exact this
theorem wf_wfV {l : List unitT.den} (h : Wf (.sl unitT) l) : wfV l := ⟨h.1, fun k hk => by
  have := h.2 k l[k] (List.getElem?_eq_getElem hk)
  rw [wf_inI this.2.2.1, wf_inI this.2.2.2.1]
  rfl⟩
noncomputable def vCon : PCon := fun f =>
  match f with
  | 36 => some fun vs => match vs with
    | [.dsl t l] => match asD unitT t l with
      | some l => .need (wfT (.sl unitT) l) (.ok (.ret (.tup [.dsl unitT (resolveF l).1, .val (.int .i64 (resolveF l).2)])))
      | none => .no
    | _ => .no
  | 35 => some fun vs => match vs with
    | [.dsl t l] => match asD unitT t l with
      | some l => .need (wfT (.sl unitT) l) (.ok (.ret (.val (.bool (fewU l)))))
      | none => .no
    | _ => .no
  | 38 => some fun vs => match vs with
    | [.dsl t l, .dsl t' l'] => match asD unitT t l, asD unitT t' l' with
      | some l, some l' => .need (wfT (.sl unitT) l) (.ok (.ret (.val (.bool (eqLU l l')))))
      | _, _ => .no
    | _ => .no
  | 78 => some fun vs => match vs with
    | [.dsl t l, .dsl t' l'] => match asD unitT t l, asD unitT t' l' with
      | some l, some l' => .need (wfT (.sl unitT) l) (.ok (.ret (.val (.bool (eqLU l l')))))
      | _, _ => .no
    | _ => .no
  | f => r7Con.p f
theorem vCon_ok : PConOk Try.prog Rd.no vCon := by
  intro f h hf
  unfold vCon at hf
  split at hf
  · cases hf
    refine ⟨(resolve_plain [] ⟨Nat.zero_le _, fun k h => absurd h (Nat.not_lt_zero _)⟩).1, fun vs e he => ?_⟩
    simp only at he
    split at he
    · split at he
      · rename_i l' hl
        obtain ⟨h1, h2⟩ := R3.need_some he
        cases h2
        rw [asD_eq hl]
        exact (resolve_plain _ (wf_wfV (wfT_iff.1 h1))).2
      · cases he
    · cases he
  · cases hf
    refine ⟨(fewU_plain [] (Nat.zero_le _)).1, fun vs e he => ?_⟩
    simp only at he
    split at he
    · split at he
      · rename_i l' hl
        obtain ⟨h1, h2⟩ := R3.need_some he
        cases h2
        rw [asD_eq hl]
        exact (fewU_plain _ (wfT_iff.1 h1).1).2
      · cases he
    · cases he
  · cases hf
    refine ⟨(same_plain [] [] (Nat.zero_le _)).1, fun vs e he => ?_⟩
    simp only at he
    split at he
    · split at he
      · rename_i hl hl'
        obtain ⟨h1, h2⟩ := R3.need_some he
        cases h2
        rw [asD_eq hl, asD_eq hl']
        exact (same_plain _ _ (wfT_iff.1 h1).1).2
      · cases he
    · cases he
  · cases hf
    refine ⟨(equal_plain [] [] (Nat.zero_le _)).1, fun vs e he => ?_⟩
    simp only at he
    split at he
    · split at he
      · rename_i hl hl'
        obtain ⟨h1, h2⟩ := R3.need_some he
        cases h2
        rw [asD_eq hl, asD_eq hl']
        exact (equal_plain _ _ (wfT_iff.1 h1).1).2
      · cases he
    · cases he
  · exact ECon.ok (rd := Rd.no) r7Con_ok _ _ hf

end Go.Proofs.Ytmcejefeloljiaa

/-
  What Check, whole, Convert and resolved come to.
-/
namespace Go.Proofs.Ytmcejefeloljiaa
set_option linter.unusedVariables false
open Go.RowKit Nm Go.SX

set_option maxRecDepth 100000 in
theorem T_ucheck (l : List unitT.den) : sxE Try.prog stopL vCon 60 37 [.dsl unitT l] =
    bif wfT unitT.sl (l) then
      bif (resolveF (l)).snd != 0 then some (OutE.ret (SV.val (Value.int IntKind.i64 (resolveF (l)).snd)))
      else
        bif wfT unitT.sl ((resolveF (l)).fst) then
          bif !eqLU ((resolveF (l)).fst) (l) then some (OutE.ret (SV.val (Value.int IntKind.i64 90)))
          else some (OutE.ret (SV.val (Value.int IntKind.i64 0)))
        else none
    else none := by kernel_rfl
set_option maxRecDepth 100000 in
theorem T_whole (n : Int) : sxE Try.prog stopL vCon 60 39 [.val (.int .i64 n)] =
    bif inI n && inI 1 then
      some
        (OutE.ret
          (SV.agg
            [SV.val (Value.bool (newR n 1).fst.neg), SV.val (Value.string (newR n 1).fst.n),
              SV.val (Value.string (newR n 1).fst.d)]))
    else none := by kernel_rfl
set_option maxRecDepth 100000 in
theorem T_resolved (l : List unitT.den) (r : ratT.den) : sxE Try.prog stopL vCon 60 40 [.dsl unitT l, svA true ratT r] =
    bif wfT unitT.sl (l) then
      bif !fewU (l) then
        some
          (OutE.ret
            (SV.tup
              [SV.dsl
                  unitT
                  [],
                SV.val (Value.bool false)]))
      else
        bif decide ((↑(ByteArray.size r.snd.fst) : Int) > 40) then
          some
            (OutE.ret
              (SV.tup
                [SV.dsl
                    unitT
                    [],
                  SV.val (Value.bool false)]))
        else
          bif decide ((↑(ByteArray.size r.snd.snd.fst) : Int) > 40) then
            some
              (OutE.ret
                (SV.tup
                  [SV.dsl
                      unitT
                      [],
                    SV.val (Value.bool false)]))
          else
            bif wfT unitT.sl (l) then
              some
                (OutE.ret
                  (SV.tup
                    [SV.dsl
                        unitT
                        (resolveF (l)).fst,
                      SV.val (Value.bool ((resolveF (l)).snd == 0))]))
            else none
    else none := by kernel_rfl

end Go.Proofs.Ytmcejefeloljiaa

/-
  Units: facts about what is resolved.
-/
namespace Go.Proofs.Ytmcejefeloljiaa
set_option linter.unusedSimpArgs false
set_option linter.unusedVariables false
open Go.RowKit Nm Go.SX

theorem findO_some {n : ByteArray} : ∀ {l : List unitT.den} {k j : Nat}, findO n l k = some j → k ≤ j ∧ ∃ h : j - k < l.length, l[j - k].1 = n
  | [], k, j, h => by cases h
  | u :: l, k, j, h => by
    rw [findO_cons] at h
    cases hb : eqN u.1 n with
    | true =>
      rw [hb] at h
      cases h
      refine ⟨Nat.le_refl _, by simp, ?_⟩
      simp only [Nat.sub_self, List.getElem_cons_zero]
      exact of_decide_eq_true hb
    | false =>
      rw [hb] at h
      obtain ⟨h1, h2, h3⟩ := findO_some h
      refine ⟨by omega, by simp only [List.length_cons]; omega, ?_⟩
      have h4 : j - k = j - (k + 1) + 1 := by omega
      simp only [h4, List.getElem_cons_succ]
      exact h3
theorem findF_some {n : ByteArray} {l : List unitT.den} {z : Int} (h : findF n l = z) (h0 : 0 ≤ z) : ∃ h : z.toNat < l.length, l[z.toNat].1 = n := by
  unfold findF at h
  split at h
  · rename_i j hj
    obtain ⟨_, h2, h3⟩ := findO_some hj
    subst h
    simpa using ⟨h2, h3⟩
  · omega
theorem findO_names {n : ByteArray} : ∀ {l l' : List unitT.den} (k : Nat), l.map (·.1) = l'.map (·.1) → findO n l k = findO n l' k
  | [], [], k, _ => rfl
  | [], _ :: _, k, h => by cases h
  | _ :: _, [], k, h => by cases h
  | u :: l, u' :: l', k, h => by
    simp only [List.map_cons, List.cons.injEq] at h
    rw [findO_cons, findO_cons, h.1, findO_names (k + 1) h.2]
theorem findF_names {n : ByteArray} {l l' : List unitT.den} (h : l.map (·.1) = l'.map (·.1)) : findF n l = findF n l' := by
  unfold findF
  rw [findO_names 0 h]
theorem findO_ext {n : ByteArray} : ∀ {l m : List unitT.den} {k j : Nat}, findO n l k = some j → findO n (l ++ m) k = some j
  | [], m, k, j, h => by cases h
  | u :: l, m, k, j, h => by
    rw [findO_cons] at h
    rw [List.cons_append, findO_cons]
    revert h
    cases eqN u.1 n with
    | true => exact id
    | false => exact findO_ext
/-- what Resolve does not touch -/
def core (u : unitT.den) : ByteArray × ByteArray × Int × Int := (u.1, u.2.1, u.2.2.1, u.2.2.2.1)
theorem mkU_core (u : unitT.den) (b : Int) (r : Rt) : core (mkU u b r) = core u := rfl
theorem stepU_cases {l : List unitT.den} {k : Nat} {x : List unitT.den} {u y : unitT.den} (h : stepU l k x u = .ok y) :
    (u.2.1 = bs [] ∧ u.2.2.1 = 0 ∧ u.2.2.2.1 = 0 ∧ y = mkU u k (newR 1 1).1) ∨
    (u.2.1 ≠ bs [] ∧ 1 ≤ u.2.2.1 ∧ u.2.2.1 ≤ 1000000 ∧ 1 ≤ u.2.2.2.1 ∧ u.2.2.2.1 ≤ 1000000 ∧ ∃ j : Nat, findF u.2.1 l = j ∧ j < k ∧ (newR u.2.2.1 u.2.2.2.1).2 = 0 ∧
      (mulR (scU (x.getD j unitT.dflt)) (newR u.2.2.1 u.2.2.2.1).1).2 = 0 ∧ y = mkU u (x.getD j unitT.dflt).2.2.2.2.1 (mulR (scU (x.getD j unitT.dflt)) (newR u.2.2.1 u.2.2.2.1).1).1) := by
  unfold stepU at h
  revert h
  cases h1 : eqN u.2.1 (bs []) with
  | true =>
    cases h2 : (u.2.2.1 == 0) <;> cases h3 : (u.2.2.2.1 == 0) <;> intro h <;> cases h
    exact .inl ⟨of_decide_eq_true h1, by simpa using h2, by simpa using h3, rfl⟩
  | false =>
    cases h2 : (inM u.2.2.1 && inM u.2.2.2.1) with
    | false => intro h; cases h
    | true =>
      unfold inM at h2
      simp only [Bool.and_eq_true, decide_eq_true_eq] at h2
      cases h3 : (decide (findF u.2.1 l < 0) || decide (findF u.2.1 l ≥ k)) with
      | true => intro h; cases h
      | false =>
        simp only [Bool.or_eq_false_iff, decide_eq_false_iff_not] at h3
        simp only [cond_true, cond_false]
        cases h4 : (newR u.2.2.1 u.2.2.2.1).2 != 0 with
        | true => intro h; cases h
        | false =>
          simp only [cond_false]
          cases h5 : (mulR (scU (x.getD (findF u.2.1 l).toNat unitT.dflt)) (newR u.2.2.1 u.2.2.2.1).1).2 != 0 with
          | true => intro h; cases h
          | false =>
            intro h
            cases h
            refine .inr ⟨of_decide_eq_false h1, h2.1.1, h2.1.2, h2.2.1, h2.2.2, (findF u.2.1 l).toNat, by omega, by omega, by simpa using h4, by simpa using h5, rfl⟩
theorem stepU_err {l : List unitT.den} {k : Nat} {x : List unitT.den} {u : unitT.den} {e : Int} (h : stepU l k x u = .error e) : e ≠ 0 := by
  unfold stepU at h
  revert h
  cases eqN u.2.1 (bs []) with
  | true =>
    cases (u.2.2.1 == 0 && u.2.2.2.1 == 0) <;> intro h <;> cases h
    decide
  | false =>
    cases (inM u.2.2.1 && inM u.2.2.2.1) with
    | false => intro h; cases h; decide
    | true =>
      cases (decide (findF u.2.1 l < 0) || decide (findF u.2.1 l ≥ k)) with
      | true => intro h; cases h; decide
      | false =>
        simp only [cond_true, cond_false]
        cases h4 : (newR u.2.2.1 u.2.2.2.1).2 != 0 with
        | true => intro h; cases h; simpa using h4
        | false =>
          simp only [cond_false]
          cases h5 : (mulR (scU (x.getD (findF u.2.1 l).toNat unitT.dflt)) (newR u.2.2.1 u.2.2.2.1).1).2 != 0 with
          | true => intro h; cases h; simpa using h5
          | false => intro h; cases h
theorem stepU_core {l : List unitT.den} {k : Nat} {x : List unitT.den} {u y : unitT.den} (h : stepU l k x u = .ok y) : core y = core u := by
  rcases stepU_cases h with h1 | h1
  · rw [h1.2.2.2]; rfl
  · obtain ⟨_, _, _, _, _, j, _, _, _, _, h2⟩ := h1
    rw [h2]; rfl
theorem mkU_congr {u u' : unitT.den} (h : core u = core u') (b : Int) (r : Rt) : mkU u b r = mkU u' b r := by
  unfold core at h
  simp only [Prod.mk.injEq] at h
  obtain ⟨h1, h2, h3, h4⟩ := h
  unfold mkU
  rw [h1, h2, h3, h4]
theorem stepU_congr {l l' : List unitT.den} (hf : ∀ n, findF n l = findF n l') (k : Nat) (x : List unitT.den) {u u' : unitT.den} (h : core u = core u') : stepU l k x u = stepU l' k x u' := by
  have h0 := h
  unfold core at h
  simp only [Prod.mk.injEq] at h
  obtain ⟨h1, h2, h3, h4⟩ := h
  unfold stepU
  rw [h2, h3, h4, hf]
  simp only [mkU_congr h0]
/-- l resolved is x -/
structure Res (l x : List unitT.den) : Prop where
  few : l.length ≤ 32
  once : ∀ i (h : i < l.length), findF l[i].1 l = (i : Int)
  len : x.length = l.length
  step : ∀ i (h : i < l.length) (h' : i < x.length), stepU l i (x.take i) l[i] = .ok x[i]
theorem once_ok {l : List unitT.den} : foldE (onceS l) l 0 () = .ok () ↔ ∀ i (h : i < l.length), findF l[i].1 l = (i : Int) := by
  constructor
  · intro h
    have := foldE_inv (fun _ k => ∀ i (h : i < l.length), i < k → findF l[i].1 l = (i : Int)) l 0 () (fun s i hi s' h1 h2 j hj hlt => by
      by_cases c : j < 0 + i
      · exact h1 j hj c
      · have : j = i := by omega
        subst this
        unfold onceS at h2
        cases hb : (findF l[j].1 l != ((0 + j : Nat) : Int)) with
        | true => rw [hb] at h2; cases h2
        | false => simpa using hb) (fun i h hk => absurd hk (Nat.not_lt_zero _)) h
    exact fun i hi => this i hi (by omega)
  · intro h
    refine foldE_ok (fun _ => ()) l 0 fun i hi => ?_
    unfold onceS
    rw [h i hi, Nat.zero_add, bne_self_eq_false]
    rfl
theorem take_push {α : Type} {x : List α} {i : Nat} (h : i < x.length) : x.take i ++ [x[i]] = x.take (i + 1) := by
  rw [List.take_succ_eq_append_getElem h]
theorem steps_ok {l x : List unitT.den} : foldE (stepS l) l 0 [] = .ok x ↔ x.length = l.length ∧ ∀ i (h : i < l.length) (h' : i < x.length), stepU l i (x.take i) l[i] = .ok x[i] := by
  constructor
  · intro h
    have := foldE_inv (fun x k => x.length = k ∧ ∀ i (h : i < l.length) (h' : i < x.length), stepU l i (x.take i) l[i] = .ok x[i]) l 0 [] (fun s i hi s' h1 h2 => by
      obtain ⟨h3, h4⟩ := h1
      unfold stepS at h2
      split at h2
      · rename_i y hy
        cases h2
        refine ⟨by rw [List.length_append, h3]; rfl, fun j hj hj' => ?_⟩
        by_cases c : j < s.length
        · rw [List.take_append_of_le_length (Nat.le_of_lt c), List.getElem_append_left c]
          exact h4 j hj c
        · have : j = s.length := by rw [List.length_append] at hj'; simp at hj'; omega
          subst this
          have e : s.length = i := by omega
          rw [List.take_left]
          simp only [List.getElem_concat_length]
          subst e
          rw [Nat.zero_add] at hy
          exact hy
      · cases h2) ⟨rfl, fun i h h' => absurd h' (Nat.not_lt_zero _)⟩ h
    exact ⟨by omega, this.2⟩
  · rintro ⟨h1, h2⟩
    have := foldE_ok (step := stepS l) (fun k => x.take k) l 0 fun i hi => by
      unfold stepS
      rw [Nat.zero_add, h2 i hi (by omega)]
      simp only
      rw [take_push (by omega)]
    simp only [List.take_zero, Nat.zero_add] at this
    rw [this, ← h1, List.take_length]
theorem resolve_iff {l x : List unitT.den} : resolveF l = (x, 0) ↔ Res l x := by
  unfold resolveF
  by_cases h : l.length > 32
  · rw [decide_eq_true h]
    simp only [cond_true, Prod.mk.injEq]
    constructor
    · rintro ⟨_, h2⟩
      exact absurd h2 (by decide)
    · intro g
      exact absurd g.few (by omega)
  · rw [decide_eq_false h]
    simp only [cond_false]
    constructor
    · intro g
      split at g
      · rename_i e he
        simp only [Prod.mk.injEq] at g
        obtain ⟨_, rfl⟩ := g
        exfalso
        have : ∀ (m : List unitT.den) (k : Nat), foldE (onceS l) m k () ≠ .error 0 := by
          intro m
          induction m with
          | nil => intro k h; cases h
          | cons u m ih =>
            intro k h
            rw [foldE_cons] at h
            unfold onceS at h
            cases hb : (findF u.1 l != (k : Int)) with
            | true => rw [hb] at h; simp only [cond_true] at h; cases h
            | false => rw [hb] at h; simp only [cond_false] at h; exact ih _ h
        exact this _ _ he
      · rename_i s hs
        split at g
        · rename_i e he
          simp only [Prod.mk.injEq] at g
          obtain ⟨_, rfl⟩ := g
          exfalso
          have : ∀ (m : List unitT.den) (k : Nat) (x : List unitT.den), foldE (stepS l) m k x ≠ .error 0 := by
            intro m
            induction m with
            | nil => intro k x h; cases h
            | cons u m ih =>
              intro k x h
              rw [foldE_cons] at h
              unfold stepS at h
              cases hb : stepU l k x u with
              | error e => rw [hb] at h; cases h; exact stepU_err hb rfl
              | ok y => rw [hb] at h; exact ih _ _ h
          exact this _ _ _ he
        · rename_i x' hx
          simp only [Prod.mk.injEq, and_true] at g
          subst g
          obtain ⟨h1, h2⟩ := steps_ok.1 hx
          exact ⟨by omega, once_ok.1 hs, h1, h2⟩
    · intro g
      rw [once_ok.2 g.once]
      simp only
      rw [steps_ok.2 ⟨g.len, g.step⟩]
theorem Res.core {l x : List unitT.den} (h : Res l x) {i : Nat} (hi : i < l.length) (hi' : i < x.length) : core x[i] = core l[i] := stepU_core (h.step i hi hi')
theorem Res.names {l x : List unitT.den} (h : Res l x) : x.map (·.1) = l.map (·.1) := by
  refine List.ext_getElem (by simp [h.len]) fun i h1 h2 => ?_
  simp only [List.length_map] at h1 h2
  simp only [List.getElem_map]
  have := h.core h2 h1
  unfold Go.Proofs.Ytmcejefeloljiaa.core at this
  simp only [Prod.mk.injEq] at this
  exact this.1
theorem Res.again {l x : List unitT.den} (h : Res l x) : Res x x := by
  have hf : ∀ n, findF n x = findF n l := fun n => findF_names h.names
  refine ⟨by rw [h.len]; exact h.few, fun i hi => ?_, rfl, fun i hi hi' => ?_⟩
  · have h1 := h.core (by have := h.len; omega) hi
    unfold Go.Proofs.Ytmcejefeloljiaa.core at h1
    simp only [Prod.mk.injEq] at h1
    rw [hf, h1.1]
    exact h.once i _
  · rw [stepU_congr hf i _ (h.core (by have := h.len; omega) hi)]
    exact h.step i _ _

end Go.Proofs.Ytmcejefeloljiaa

/-
  Units: the table with Check, and what Convert does.
-/
namespace Go.Proofs.Ytmcejefeloljiaa
set_option linter.unusedSimpArgs false
set_option linter.unusedVariables false
open Go.RowKit Nm Go.SX

noncomputable def checkFU (l : List unitT.den) : Int := bif (resolveF l).2 != 0 then (resolveF l).2 else bif eqLU (resolveF l).1 l then 0 else 90
theorem wf_nat {k : Nat} (h : k ≤ 32) : (Lit.int .i64 k).wf = true := by
  unfold Lit.wf
  rw [Bool.and_eq_true, decide_eq_true_eq, decide_eq_true_eq]
  have h1 : IntKind.i64.min = -9223372036854775808 := by decide
  have h2 : IntKind.i64.max = 9223372036854775807 := by decide
  omega
theorem wf_get {t : Ty} {l : List t.den} (h : Wf (.sl t) l) {i : Nat} (hi : i < l.length) : Wf t l[i] := h.2 i l[i] (List.getElem?_eq_getElem hi)
theorem wf_mk {u : unitT.den} {b : Int} {r : Rt} (hu : Wf unitT u) (hb : (Lit.int .i64 b).wf = true) (hr : szR r = true) : Wf unitT (mkU u b r) := by
  obtain ⟨h1, h2, h3, h4, h5, h6, h7⟩ := hu
  unfold szR at hr
  rw [Bool.and_eq_true, szB_iff, szB_iff] at hr
  exact ⟨h1, h2, h3, h4, hb, ⟨trivial, hr.1, hr.2, trivial⟩, trivial⟩
theorem res_wf {l x : List unitT.den} (h : Res l x) (hl : Wf (.sl unitT) l) : Wf (.sl unitT) x := by
  have key : ∀ (i : Nat) (hi : i < x.length), Wf unitT x[i] := by
    intro i
    induction i using Nat.strongRecOn with
    | ind i ih =>
      intro hi
      have hi' : i < l.length := by have := h.len; omega
      have hf := h.few
      rcases stepU_cases (h.step i hi' hi) with ⟨_, _, _, h1⟩ | ⟨_, _, _, _, _, j, _, h2, _, _, h1⟩
      · rw [h1]
        exact wf_mk (wf_get hl hi') (wf_nat (by omega)) (new_sz _ _)
      · rw [h1]
        have e : (x.take i).getD j unitT.dflt = x[j] := by
          rw [List.getD_eq_getElem?_getD, List.getElem?_take_of_lt h2, List.getElem?_eq_getElem (by omega)]
          rfl
        rw [e]
        exact wf_mk (wf_get hl hi') (ih j h2 (by omega)).2.2.2.2.1 (mul_sz _ _)
  refine ⟨by have h1 := h.few; have h2 := h.len; have h3 : (32 : Nat) ≤ maxLen := by decide
             omega, fun i y hy => ?_⟩
  have hy' : x[i]? = some y := hy
  obtain ⟨h1, rfl⟩ := List.getElem?_eq_some_iff.1 hy'
  exact key i h1
theorem resolve_err {l : List unitT.den} (h : (resolveF l).2 ≠ 0) : (resolveF l).1 = [] := by
  revert h
  unfold resolveF
  cases decide (l.length > 32) with
  | true => intro _; rfl
  | false =>
    simp only [cond_false]
    split
    · intro _; rfl
    · split
      · intro _; rfl
      · intro h; exact absurd rfl h
theorem res_of {l : List unitT.den} (h : (resolveF l).2 = 0) : Res l (resolveF l).1 := resolve_iff.1 (by rw [← h])
theorem resolve_wf {l : List unitT.den} (hl : Wf (.sl unitT) l) : Wf (.sl unitT) (resolveF l).1 := by
  by_cases h : (resolveF l).2 = 0
  · exact res_wf (res_of h) hl
  · rw [resolve_err h]
    exact ⟨Nat.zero_le _, fun i x hx => by cases hx⟩
theorem ucheck_plain (l : List unitT.den) (hl : Wf (.sl unitT) l) : HasBody Try.prog 37 ∧ DPlain Try.prog 37 [.dsl unitT l] (.ret (.val (.int .i64 (checkFU l)))) := by
  refine sxE_sound pOk vCon_ok stopL_ok 60 ?_
  rw [T_ucheck]
  have h1 := wfT_iff.2 hl
  have h2 := wfT_iff.2 (resolve_wf hl)
  simp only [h1, h2, cond_true]
  unfold checkFU
  cases (resolveF l).2 != 0 <;> cases eqLU (resolveF l).1 l <;> rfl
noncomputable def wCon : PCon := fun f =>
  match f with
  | 37 => some fun vs => match vs with
    | [.dsl t l] => match asD unitT t l with
      | some l => .need (wfT (.sl unitT) l) (.ok (.ret (.val (.int .i64 (checkFU l)))))
      | none => .no
    | _ => .no
  | f => vCon f
theorem wf_nil {t : Ty} : Wf (.sl t) [] := ⟨Nat.zero_le _, fun i x hx => by cases hx⟩
theorem wCon_ok : PConOk Try.prog Rd.no wCon := by
  intro f h hf
  unfold wCon at hf
  split at hf
  · cases hf
    refine ⟨(ucheck_plain [] wf_nil).1, fun vs e he => ?_⟩
    simp only at he
    split at he
    · split at he
      · rename_i l' hl
        obtain ⟨h1, h2⟩ := R3.need_some he
        cases h2
        rw [asD_eq hl]
        exact (ucheck_plain _ (wfT_iff.1 h1)).2
      · cases he
    · cases he
  · exact vCon_ok _ _ hf

end Go.Proofs.Ytmcejefeloljiaa

/-
  What Convert comes to.
-/
namespace Go.Proofs.Ytmcejefeloljiaa
set_option linter.unusedVariables false
open Go.RowKit Nm Go.SX

set_option maxRecDepth 100000 in
theorem T_convert (l : List unitT.den) (a b : Int) (r : ratT.den) : sxE Try.prog noL wCon 60 41 [.dsl unitT l, .val (.int .i64 a), .val (.int .i64 b), .agg [.val (.bool r.1), .val (.string r.2.1), .val (.string r.2.2.1)]] =
    bif wfT unitT.sl (l) then
      bif checkFU (l) != 0 then
        some
          (OutE.ret
            (SV.tup
              [SV.agg
                  [SV.val (Value.bool false), SV.val (Value.string (bs [])), SV.val (Value.string (bs []))],
                SV.val (Value.int IntKind.i64 (checkFU (l)))]))
      else
        bif decide (a < 0) then
          some
            (OutE.ret
              (SV.tup
                [SV.agg
                    [SV.val (Value.bool false), SV.val (Value.string (bs [])),
                      SV.val (Value.string (bs []))],
                  SV.val (Value.int IntKind.i64 90)]))
        else
          bif decide (a ≥ (↑l.length : Int)) then
            some
              (OutE.ret
                (SV.tup
                  [SV.agg
                      [SV.val (Value.bool false), SV.val (Value.string (bs [])),
                        SV.val (Value.string (bs []))],
                    SV.val (Value.int IntKind.i64 90)]))
          else
            bif decide (b < 0) then
              some
                (OutE.ret
                  (SV.tup
                    [SV.agg
                        [SV.val (Value.bool false), SV.val (Value.string (bs [])),
                          SV.val (Value.string (bs []))],
                      SV.val (Value.int IntKind.i64 90)]))
            else
              bif decide (b ≥ (↑l.length : Int)) then
                some
                  (OutE.ret
                    (SV.tup
                      [SV.agg
                          [SV.val (Value.bool false), SV.val (Value.string (bs [])),
                            SV.val (Value.string (bs []))],
                        SV.val (Value.int IntKind.i64 90)]))
              else
                bif inB a l.length then
                  bif inB b l.length then
                    bif
                        (l.getD a.toNat unitT.dflt).snd.snd.snd.snd.fst !=
                          (l.getD b.toNat unitT.dflt).snd.snd.snd.snd.fst then
                      some
                        (OutE.ret
                          (SV.tup
                            [SV.agg
                                [SV.val (Value.bool false), SV.val (Value.string (bs [])),
                                  SV.val (Value.string (bs []))],
                              SV.val (Value.int IntKind.i64 90)]))
                    else
                      bif inB a l.length then
                        bif
                            szB r.snd.fst && szB r.snd.snd.fst &&
                              (szB (l.getD a.toNat unitT.dflt).snd.snd.snd.snd.snd.fst.snd.fst &&
                                szB (l.getD a.toNat unitT.dflt).snd.snd.snd.snd.snd.fst.snd.snd.fst) then
                          bif
                              (mulR { neg := r.fst, n := r.snd.fst, d := r.snd.snd.fst }
                                    { neg := (l.getD a.toNat unitT.dflt).snd.snd.snd.snd.snd.fst.fst,
                                      n := (l.getD a.toNat unitT.dflt).snd.snd.snd.snd.snd.fst.snd.fst,
                                      d := (l.getD a.toNat unitT.dflt).snd.snd.snd.snd.snd.fst.snd.snd.fst }).snd !=
                                0 then
                            bif
                                (mulR { neg := r.fst, n := r.snd.fst, d := r.snd.snd.fst }
                                      { neg := (l.getD a.toNat unitT.dflt).snd.snd.snd.snd.snd.fst.fst,
                                        n := (l.getD a.toNat unitT.dflt).snd.snd.snd.snd.snd.fst.snd.fst,
                                        d := (l.getD a.toNat unitT.dflt).snd.snd.snd.snd.snd.fst.snd.snd.fst }).snd !=
                                  0 then
                              some
                                (OutE.ret
                                  (SV.tup
                                    [SV.agg
                                        [SV.val (Value.bool false), SV.val (Value.string (bs [])),
                                          SV.val (Value.string (bs []))],
                                      SV.val
                                        (Value.int IntKind.i64
                                          (mulR { neg := r.fst, n := r.snd.fst, d := r.snd.snd.fst }
                                              { neg := (l.getD a.toNat unitT.dflt).snd.snd.snd.snd.snd.fst.fst,
                                                n := (l.getD a.toNat unitT.dflt).snd.snd.snd.snd.snd.fst.snd.fst,
                                                d :=
                                                  (l.getD a.toNat unitT.dflt).snd.snd.snd.snd.snd.fst.snd.snd.fst }).snd)]))
                            else
                              bif inB b l.length then
                                bif
                                    szB
                                          (mulR { neg := r.fst, n := r.snd.fst, d := r.snd.snd.fst }
                                                { neg := (l.getD a.toNat unitT.dflt).snd.snd.snd.snd.snd.fst.fst,
                                                  n := (l.getD a.toNat unitT.dflt).snd.snd.snd.snd.snd.fst.snd.fst,
                                                  d :=
                                                    (l.getD a.toNat
                                                                        unitT.dflt).snd.snd.snd.snd.snd.fst.snd.snd.fst }).fst.n &&
                                        szB
                                          (mulR { neg := r.fst, n := r.snd.fst, d := r.snd.snd.fst }
                                                { neg := (l.getD a.toNat unitT.dflt).snd.snd.snd.snd.snd.fst.fst,
                                                  n := (l.getD a.toNat unitT.dflt).snd.snd.snd.snd.snd.fst.snd.fst,
                                                  d :=
                                                    (l.getD a.toNat
                                                                        unitT.dflt).snd.snd.snd.snd.snd.fst.snd.snd.fst }).fst.d &&
                                      (szB (l.getD b.toNat unitT.dflt).snd.snd.snd.snd.snd.fst.snd.fst &&
                                        szB (l.getD b.toNat unitT.dflt).snd.snd.snd.snd.snd.fst.snd.snd.fst) then
                                  bif
                                      (divR
                                            (mulR { neg := r.fst, n := r.snd.fst, d := r.snd.snd.fst }
                                                { neg := (l.getD a.toNat unitT.dflt).snd.snd.snd.snd.snd.fst.fst,
                                                  n := (l.getD a.toNat unitT.dflt).snd.snd.snd.snd.snd.fst.snd.fst,
                                                  d :=
                                                    (l.getD a.toNat unitT.dflt).snd.snd.snd.snd.snd.fst.snd.snd.fst }).fst
                                            { neg := (l.getD b.toNat unitT.dflt).snd.snd.snd.snd.snd.fst.fst,
                                              n := (l.getD b.toNat unitT.dflt).snd.snd.snd.snd.snd.fst.snd.fst,
                                              d := (l.getD b.toNat unitT.dflt).snd.snd.snd.snd.snd.fst.snd.snd.fst }).snd !=
                                        0 then
                                    some
                                      (OutE.ret
                                        (SV.tup
                                          [SV.agg
                                              [SV.val (Value.bool false), SV.val (Value.string (bs [])),
                                                SV.val (Value.string (bs []))],
                                            SV.val
                                              (Value.int IntKind.i64
                                                (divR
                                                    (mulR { neg := r.fst, n := r.snd.fst, d := r.snd.snd.fst }
                                                        { neg := (l.getD a.toNat unitT.dflt).snd.snd.snd.snd.snd.fst.fst,
                                                          n := (l.getD a.toNat unitT.dflt).snd.snd.snd.snd.snd.fst.snd.fst,
                                                          d :=
                                                            (l.getD a.toNat
                                                                                unitT.dflt).snd.snd.snd.snd.snd.fst.snd.snd.fst }).fst
                                                    { neg := (l.getD b.toNat unitT.dflt).snd.snd.snd.snd.snd.fst.fst,
                                                      n := (l.getD b.toNat unitT.dflt).snd.snd.snd.snd.snd.fst.snd.fst,
                                                      d :=
                                                        (l.getD b.toNat
                                                                            unitT.dflt).snd.snd.snd.snd.snd.fst.snd.snd.fst }).snd)]))
                                  else
                                    some
                                      (OutE.ret
                                        (SV.tup
                                          [SV.agg
                                              [SV.val
                                                  (Value.bool
                                                    (divR
                                                          (mulR { neg := r.fst, n := r.snd.fst, d := r.snd.snd.fst }
                                                              {
                                                                neg :=
                                                                  (l.getD a.toNat unitT.dflt).snd.snd.snd.snd.snd.fst.fst,
                                                                n :=
                                                                  (l.getD a.toNat
                                                                                    unitT.dflt).snd.snd.snd.snd.snd.fst.snd.fst,
                                                                d :=
                                                                  (l.getD a.toNat
                                                                                      unitT.dflt).snd.snd.snd.snd.snd.fst.snd.snd.fst }).fst
                                                          { neg := (l.getD b.toNat unitT.dflt).snd.snd.snd.snd.snd.fst.fst,
                                                            n :=
                                                              (l.getD b.toNat unitT.dflt).snd.snd.snd.snd.snd.fst.snd.fst,
                                                            d :=
                                                              (l.getD b.toNat
                                                                                  unitT.dflt).snd.snd.snd.snd.snd.fst.snd.snd.fst }).fst.neg),
                                                SV.val
                                                  (Value.string
                                                    (divR
                                                          (mulR { neg := r.fst, n := r.snd.fst, d := r.snd.snd.fst }
                                                              {
                                                                neg :=
                                                                  (l.getD a.toNat unitT.dflt).snd.snd.snd.snd.snd.fst.fst,
                                                                n :=
                                                                  (l.getD a.toNat
                                                                                    unitT.dflt).snd.snd.snd.snd.snd.fst.snd.fst,
                                                                d :=
                                                                  (l.getD a.toNat
                                                                                      unitT.dflt).snd.snd.snd.snd.snd.fst.snd.snd.fst }).fst
                                                          { neg := (l.getD b.toNat unitT.dflt).snd.snd.snd.snd.snd.fst.fst,
                                                            n :=
                                                              (l.getD b.toNat unitT.dflt).snd.snd.snd.snd.snd.fst.snd.fst,
                                                            d :=
                                                              (l.getD b.toNat
                                                                                  unitT.dflt).snd.snd.snd.snd.snd.fst.snd.snd.fst }).fst.n),
                                                SV.val
                                                  (Value.string
                                                    (divR
                                                          (mulR { neg := r.fst, n := r.snd.fst, d := r.snd.snd.fst }
                                                              {
                                                                neg :=
                                                                  (l.getD a.toNat unitT.dflt).snd.snd.snd.snd.snd.fst.fst,
                                                                n :=
                                                                  (l.getD a.toNat
                                                                                    unitT.dflt).snd.snd.snd.snd.snd.fst.snd.fst,
                                                                d :=
                                                                  (l.getD a.toNat
                                                                                      unitT.dflt).snd.snd.snd.snd.snd.fst.snd.snd.fst }).fst
                                                          { neg := (l.getD b.toNat unitT.dflt).snd.snd.snd.snd.snd.fst.fst,
                                                            n :=
                                                              (l.getD b.toNat unitT.dflt).snd.snd.snd.snd.snd.fst.snd.fst,
                                                            d :=
                                                              (l.getD b.toNat
                                                                                  unitT.dflt).snd.snd.snd.snd.snd.fst.snd.snd.fst }).fst.d)],
                                            SV.val (Value.int IntKind.i64 0)]))
                                else none
                              else none
                          else
                            bif inB b l.length then
                              bif
                                  szB
                                        (mulR { neg := r.fst, n := r.snd.fst, d := r.snd.snd.fst }
                                              { neg := (l.getD a.toNat unitT.dflt).snd.snd.snd.snd.snd.fst.fst,
                                                n := (l.getD a.toNat unitT.dflt).snd.snd.snd.snd.snd.fst.snd.fst,
                                                d :=
                                                  (l.getD a.toNat
                                                                      unitT.dflt).snd.snd.snd.snd.snd.fst.snd.snd.fst }).fst.n &&
                                      szB
                                        (mulR { neg := r.fst, n := r.snd.fst, d := r.snd.snd.fst }
                                              { neg := (l.getD a.toNat unitT.dflt).snd.snd.snd.snd.snd.fst.fst,
                                                n := (l.getD a.toNat unitT.dflt).snd.snd.snd.snd.snd.fst.snd.fst,
                                                d :=
                                                  (l.getD a.toNat
                                                                      unitT.dflt).snd.snd.snd.snd.snd.fst.snd.snd.fst }).fst.d &&
                                    (szB (l.getD b.toNat unitT.dflt).snd.snd.snd.snd.snd.fst.snd.fst &&
                                      szB (l.getD b.toNat unitT.dflt).snd.snd.snd.snd.snd.fst.snd.snd.fst) then
                                bif
                                    (divR
                                          (mulR { neg := r.fst, n := r.snd.fst, d := r.snd.snd.fst }
                                              { neg := (l.getD a.toNat unitT.dflt).snd.snd.snd.snd.snd.fst.fst,
                                                n := (l.getD a.toNat unitT.dflt).snd.snd.snd.snd.snd.fst.snd.fst,
                                                d := (l.getD a.toNat unitT.dflt).snd.snd.snd.snd.snd.fst.snd.snd.fst }).fst
                                          { neg := (l.getD b.toNat unitT.dflt).snd.snd.snd.snd.snd.fst.fst,
                                            n := (l.getD b.toNat unitT.dflt).snd.snd.snd.snd.snd.fst.snd.fst,
                                            d := (l.getD b.toNat unitT.dflt).snd.snd.snd.snd.snd.fst.snd.snd.fst }).snd !=
                                      0 then
                                  some
                                    (OutE.ret
                                      (SV.tup
                                        [SV.agg
                                            [SV.val (Value.bool false), SV.val (Value.string (bs [])),
                                              SV.val (Value.string (bs []))],
                                          SV.val
                                            (Value.int IntKind.i64
                                              (divR
                                                  (mulR { neg := r.fst, n := r.snd.fst, d := r.snd.snd.fst }
                                                      { neg := (l.getD a.toNat unitT.dflt).snd.snd.snd.snd.snd.fst.fst,
                                                        n := (l.getD a.toNat unitT.dflt).snd.snd.snd.snd.snd.fst.snd.fst,
                                                        d :=
                                                          (l.getD a.toNat
                                                                              unitT.dflt).snd.snd.snd.snd.snd.fst.snd.snd.fst }).fst
                                                  { neg := (l.getD b.toNat unitT.dflt).snd.snd.snd.snd.snd.fst.fst,
                                                    n := (l.getD b.toNat unitT.dflt).snd.snd.snd.snd.snd.fst.snd.fst,
                                                    d :=
                                                      (l.getD b.toNat
                                                                          unitT.dflt).snd.snd.snd.snd.snd.fst.snd.snd.fst }).snd)]))
                                else
                                  some
                                    (OutE.ret
                                      (SV.tup
                                        [SV.agg
                                            [SV.val
                                                (Value.bool
                                                  (divR
                                                        (mulR { neg := r.fst, n := r.snd.fst, d := r.snd.snd.fst }
                                                            {
                                                              neg :=
                                                                (l.getD a.toNat unitT.dflt).snd.snd.snd.snd.snd.fst.fst,
                                                              n :=
                                                                (l.getD a.toNat unitT.dflt).snd.snd.snd.snd.snd.fst.snd.fst,
                                                              d :=
                                                                (l.getD a.toNat
                                                                                    unitT.dflt).snd.snd.snd.snd.snd.fst.snd.snd.fst }).fst
                                                        { neg := (l.getD b.toNat unitT.dflt).snd.snd.snd.snd.snd.fst.fst,
                                                          n := (l.getD b.toNat unitT.dflt).snd.snd.snd.snd.snd.fst.snd.fst,
                                                          d :=
                                                            (l.getD b.toNat
                                                                                unitT.dflt).snd.snd.snd.snd.snd.fst.snd.snd.fst }).fst.neg),
                                              SV.val
                                                (Value.string
                                                  (divR
                                                        (mulR { neg := r.fst, n := r.snd.fst, d := r.snd.snd.fst }
                                                            {
                                                              neg :=
                                                                (l.getD a.toNat unitT.dflt).snd.snd.snd.snd.snd.fst.fst,
                                                              n :=
                                                                (l.getD a.toNat unitT.dflt).snd.snd.snd.snd.snd.fst.snd.fst,
                                                              d :=
                                                                (l.getD a.toNat
                                                                                    unitT.dflt).snd.snd.snd.snd.snd.fst.snd.snd.fst }).fst
                                                        { neg := (l.getD b.toNat unitT.dflt).snd.snd.snd.snd.snd.fst.fst,
                                                          n := (l.getD b.toNat unitT.dflt).snd.snd.snd.snd.snd.fst.snd.fst,
                                                          d :=
                                                            (l.getD b.toNat
                                                                                unitT.dflt).snd.snd.snd.snd.snd.fst.snd.snd.fst }).fst.n),
                                              SV.val
                                                (Value.string
                                                  (divR
                                                        (mulR { neg := r.fst, n := r.snd.fst, d := r.snd.snd.fst }
                                                            {
                                                              neg :=
                                                                (l.getD a.toNat unitT.dflt).snd.snd.snd.snd.snd.fst.fst,
                                                              n :=
                                                                (l.getD a.toNat unitT.dflt).snd.snd.snd.snd.snd.fst.snd.fst,
                                                              d :=
                                                                (l.getD a.toNat
                                                                                    unitT.dflt).snd.snd.snd.snd.snd.fst.snd.snd.fst }).fst
                                                        { neg := (l.getD b.toNat unitT.dflt).snd.snd.snd.snd.snd.fst.fst,
                                                          n := (l.getD b.toNat unitT.dflt).snd.snd.snd.snd.snd.fst.snd.fst,
                                                          d :=
                                                            (l.getD b.toNat
                                                                                unitT.dflt).snd.snd.snd.snd.snd.fst.snd.snd.fst }).fst.d)],
                                          SV.val (Value.int IntKind.i64 0)]))
                              else none
                            else none
                        else none
                      else none
                  else none
                else none
    else none := by kernel_rfl

end Go.Proofs.Ytmcejefeloljiaa

/-
  Units: what Convert does, and the table with it.
-/
namespace Go.Proofs.Ytmcejefeloljiaa
set_option linter.unusedSimpArgs false
set_option linter.unusedVariables false
open Go.RowKit Nm Go.SX

def outB (l : List unitT.den) (a : Int) : Bool := decide (a < 0) || decide (a ≥ l.length)
def atU (l : List unitT.den) (a : Int) : unitT.den := l.getD a.toNat unitT.dflt
noncomputable def convF (l : List unitT.den) (a b : Int) (r : Rt) : Rt × Int :=
  bif checkFU l != 0 then (zR, checkFU l)
  else bif outB l a || outB l b || (atU l a).2.2.2.2.1 != (atU l b).2.2.2.2.1 then (zR, 90)
  else bif (mulR r (scU (atU l a))).2 != 0 then (zR, (mulR r (scU (atU l a))).2)
  else bif (divR (mulR r (scU (atU l a))).1 (scU (atU l b))).2 != 0 then (zR, (divR (mulR r (scU (atU l a))).1 (scU (atU l b))).2)
  else ((divR (mulR r (scU (atU l a))).1 (scU (atU l b))).1, 0)
theorem div_sz (a b : Rt) : szR (divR a b).1 = true := by
  unfold divR both
  split
  · split
    · split
      · rfl
      · exact resO_sz fun r h => mulO_sz _ _ h
    · rfl
  · rfl
def rtS (r : Rt) : SV := .agg [.val (.bool r.neg), .val (.string r.n), .val (.string r.d)]
theorem in_of_out {l : List unitT.den} {a : Int} (h1 : decide (a < 0) = false) (h2 : decide (a ≥ (l.length : Int)) = false) : inB a l.length = true := by
  have h1 := of_decide_eq_false h1
  have h2 := of_decide_eq_false h2
  unfold inB
  rw [Bool.and_eq_true, decide_eq_true_eq, decide_eq_true_eq]
  omega
theorem at_sz {l : List unitT.den} (hl : Wf (.sl unitT) l) {a : Int} (h : inB a l.length = true) : (szB (atU l a).2.2.2.2.2.1.2.1 && szB (atU l a).2.2.2.2.2.1.2.2.1) = true := by
  unfold inB at h
  rw [Bool.and_eq_true, decide_eq_true_eq, decide_eq_true_eq] at h
  have e : atU l a = l[a.toNat] := by
    unfold atU
    rw [List.getD_eq_getElem?_getD, List.getElem?_eq_getElem h.2]
    rfl
  rw [e]
  have := (wf_get hl h.2).2.2.2.2.2.1
  rw [szB_iff.2 this.2.1, szB_iff.2 this.2.2.1]
  rfl
theorem conv_plain (l : List unitT.den) (a b : Int) (r : ratT.den) (hl : Wf (.sl unitT) l) (hr : (szB r.2.1 && szB r.2.2.1) = true) :
    HasBody Try.prog 41 ∧ DPlain Try.prog 41 [.dsl unitT l, .val (.int .i64 a), .val (.int .i64 b), .agg [.val (.bool r.1), .val (.string r.2.1), .val (.string r.2.2.1)]] (.ret (.tup [rtS (convF l a b (toRt r)).1, .val (.int .i64 (convF l a b (toRt r)).2)])) := by
  refine sxE_sound pOk wCon_ok noL_ok 60 ?_
  rw [T_convert]
  have h1 := wfT_iff.2 hl
  have e : (⟨r.1, r.2.1, r.2.2.1⟩ : Rt) = toRt r := rfl
  unfold convF outB
  cases h2 : (checkFU l != 0) with
  | true => simp only [h1, h2, cond_true]; rfl
  | false =>
    simp only [h1, h2, cond_true, cond_false]
    cases a1 : decide (a < 0) with
    | true => rfl
    | false =>
      cases a2 : decide (a ≥ (l.length : Int)) with
      | true => rfl
      | false =>
        cases a3 : decide (b < 0) with
        | true => rfl
        | false =>
          cases a4 : decide (b ≥ (l.length : Int)) with
          | true => rfl
          | false =>
            have h3 := in_of_out a1 a2
            have h4 := in_of_out a3 a4
            have h5 := at_sz hl h3
            have h6 := at_sz hl h4
            have ea : l.getD a.toNat unitT.dflt = atU l a := rfl
            have eb : l.getD b.toNat unitT.dflt = atU l b := rfl
            have es : ∀ u : unitT.den, (⟨u.2.2.2.2.2.1.1, u.2.2.2.2.2.1.2.1, u.2.2.2.2.2.1.2.2.1⟩ : Rt) = scU u := fun u => rfl
            simp only [h3, h4, h5, h6, hr, ea, eb, es, e, cond_true, cond_false, Bool.and_self, Bool.or_self, Bool.false_or]
            cases a5 : ((atU l a).2.2.2.2.1 != (atU l b).2.2.2.2.1) with
            | true => rfl
            | false =>
              have h7 : (szB (mulR (toRt r) (scU (atU l a))).1.n && szB (mulR (toRt r) (scU (atU l a))).1.d) = true := mul_sz _ _
              simp only [h7, cond_false, cond_true, Bool.and_self]
              cases a6 : (mulR (toRt r) (scU (atU l a))).2 != 0 with
              | true => simp only [a6, cond_true]; rfl
              | false =>
                simp only [a6, cond_false]
                cases a7 : (divR (mulR (toRt r) (scU (atU l a))).1 (scU (atU l b))).2 != 0 with
                | true => simp only [a7, cond_true]; rfl
                | false => simp only [a7, cond_false]; rfl
noncomputable def xCon : PCon := fun f =>
  match f with
  | 41 => some fun vs => match vs with
    | [.dsl t l, .val (.int .i64 a), .val (.int .i64 b), .agg [.val (.bool n), .val (.string x), .val (.string y)]] => match asD unitT t l with
      | some l => .need (wfT (.sl unitT) l && (szB x && szB y)) (.ok (.ret (.tup [rtS (convF l a b ⟨n, x, y⟩).1, .val (.int .i64 (convF l a b ⟨n, x, y⟩).2)])))
      | none => .no
    | [.dsl t l, .val (.int .i64 a), .val (.int .i64 b), .val (.agg ⟨[.bool n, .string x, .string y]⟩)] => match asD unitT t l with
      | some l => .need (wfT (.sl unitT) l && (szB x && szB y)) (.ok (.ret (.tup [rtS (convF l a b ⟨n, x, y⟩).1, .val (.int .i64 (convF l a b ⟨n, x, y⟩).2)])))
      | none => .no
    | _ => .no
  | f => wCon f

end Go.Proofs.Ytmcejefeloljiaa

/-
  A symbolic executor: contracts whose results are made plain numbers, for runs on given values.
-/
namespace Go.SX
open Go.RowKit
section
variable {β : Type}
/-- a number below a bound, found by trying -/
def frc8 (n : Nat) (k : Nat → R3 β) : Nat → R3 β
  | 0 => .no
  | i + 1 => .br (n == i) (k i) (frc8 n k i)
theorem frc8_eq {n : Nat} {k : Nat → R3 β} {e : β} : ∀ {i : Nat}, (frc8 n k i).res = some e → (k n).res = some e
  | 0, h => by cases h
  | i + 1, h => by
    unfold frc8 R3.res at h
    cases hb : (n == i) with
    | true => rw [hb] at h; rw [eq_of_beq hb]; exact h
    | false => rw [hb] at h; exact frc8_eq h
def frcN (n : Nat) (k : Nat → R3 β) (fuel : Nat) : R3 β :=
  match fuel with
  | 0 => .no
  | f + 1 => .br (decide (n < 256)) (frc8 n k 256) (frcN (n / 256) (fun q => frc8 (n % 256) (fun r => k (256 * q + r)) 256) f)
theorem frcN_eq {e : β} : ∀ {fuel n : Nat} {k : Nat → R3 β}, (frcN n k fuel).res = some e → (k n).res = some e
  | 0, _, _, h => by cases h
  | f + 1, n, k, h => by
    unfold frcN R3.res at h
    cases hb : decide (n < 256) with
    | true => rw [hb] at h; exact frc8_eq h
    | false =>
      rw [hb] at h
      have h1 := frc8_eq (frcN_eq (k := fun q => frc8 (n % 256) (fun r => k (256 * q + r)) 256) h)
      rwa [Nat.div_add_mod] at h1
def frcI (n : Int) (k : Int → R3 β) : R3 β :=
  match n with
  | .ofNat m => frcN m (fun m => k (.ofNat m)) 9
  | .negSucc m => frcN m (fun m => k (.negSucc m)) 9
theorem frcI_eq {n : Int} {k : Int → R3 β} {e : β} (h : (frcI n k).res = some e) : (k n).res = some e := by
  unfold frcI at h
  split at h
  · exact frcN_eq (k := fun m => k (.ofNat m)) h
  · exact frcN_eq (k := fun m => k (.negSucc m)) h
def frcL : List UInt8 → (List Nat → R3 β) → R3 β
  | [], k => k []
  | x :: l, k => frc8 x.toNat (fun y => frcL l fun l => k (y :: l)) 256
theorem frcL_eq {e : β} : ∀ {l : List UInt8} {k : List Nat → R3 β}, (frcL l k).res = some e → (k (l.map UInt8.toNat)).res = some e
  | [], _, h => h
  | x :: l, k, h => frcL_eq (k := fun l => k (x.toNat :: l)) (frc8_eq (k := fun y => frcL l fun l => k (y :: l)) h)
def txt (l : List Nat) : ByteArray := ⟨(l.map UInt8.ofNat).toArray⟩
theorem txt_eq (s : ByteArray) : txt (s.data.toList.map UInt8.toNat) = s := by
  obtain ⟨⟨l⟩⟩ := s
  unfold txt
  simp only [List.map_map]
  congr 1
  show (List.map (UInt8.ofNat ∘ UInt8.toNat) l).toArray = ⟨l⟩
  congr 1
  induction l with
  | nil => rfl
  | cons x l ih => simp [ih]
mutual
def frcV : Value → (Value → R3 β) → R3 β
  | .string s, k => frcL s.data.toList fun l => k (.string (txt l))
  | .int kd n, k => frcI n fun n => k (.int kd n)
  | .bool b, k => .br b (k (.bool true)) (k (.bool false))
  | .agg ⟨l⟩, k => frcVL l fun l => k (.agg ⟨l⟩)
  | v, k => k v
def frcVL : List Value → (List Value → R3 β) → R3 β
  | [], k => k []
  | x :: l, k => frcV x fun y => frcVL l fun l => k (y :: l)
end
mutual
theorem frcV_eq {e : β} : ∀ {v : Value} {k : Value → R3 β}, (frcV v k).res = some e → (k v).res = some e
  | .string s, k, h => by
    unfold frcV at h
    have := frcL_eq (k := fun l => k (.string (txt l))) h
    rwa [txt_eq] at this
  | .int kd n, k, h => by
    unfold frcV at h
    exact frcI_eq (k := fun n => k (.int kd n)) h
  | .bool b, k, h => by
    unfold frcV R3.res at h
    cases b <;> exact h
  | .agg ⟨l⟩, k, h => by
    unfold frcV at h
    exact frcVL_eq (k := fun l => k (.agg ⟨l⟩)) h
  | .tuple _, k, h => by unfold frcV at h; exact h
  | .float _ _, k, h => by unfold frcV at h; exact h
  | .complex _ _ _, k, h => by unfold frcV at h; exact h
  | .chan _, k, h => by unfold frcV at h; exact h
  | .pointer _, k, h => by unfold frcV at h; exact h
  | .slice _ _ _, k, h => by unfold frcV at h; exact h
  | .map _, k, h => by unfold frcV at h; exact h
  | .iface _ _, k, h => by unfold frcV at h; exact h
  | .func _ _ _, k, h => by unfold frcV at h; exact h
  | .nilFunc, k, h => by unfold frcV at h; exact h
  | .nilIface, k, h => by unfold frcV at h; exact h
theorem frcVL_eq {e : β} : ∀ {l : List Value} {k : List Value → R3 β}, (frcVL l k).res = some e → (k l).res = some e
  | [], _, h => h
  | x :: l, k, h => by
    unfold frcVL at h
    have h1 := frcV_eq (k := fun y => frcVL l fun l => k (y :: l)) h
    exact frcVL_eq (k := fun l => k (x :: l)) h1
end
/-- a plain value, made of plain numbers -/
def frcT : (t : Ty) → t.den → (t.den → R3 β) → R3 β
  | .int _, x, k => frcI x k
  | .str, x, k => frcL (ByteArray.data x).toList fun l => k (txt l)
  | .bool, x, k => .br x (k true) (k false)
  | .unit, _, k => k ()
  | .pair a b, x, k => frcT a x.1 fun y => frcT b x.2 fun z => k (y, z)
  | .sl t, l, k => go t (frcT t) l k
where go (t : Ty) (f : t.den → (t.den → R3 β) → R3 β) : List t.den → (List t.den → R3 β) → R3 β
  | [], k => k []
  | x :: l, k => f x fun y => go t f l fun l => k (y :: l)
theorem frcT_go {e : β} {t : Ty} {f : t.den → (t.den → R3 β) → R3 β} (hf : ∀ x k, (f x k).res = some e → (k x).res = some e) : ∀ {l : List t.den} {k : List t.den → R3 β}, (frcT.go t f l k).res = some e → (k l).res = some e
  | [], _, h => h
  | x :: l, k, h => by
    unfold frcT.go at h
    exact frcT_go hf (k := fun l => k (x :: l)) (hf _ _ h)
theorem frcT_eq {e : β} : ∀ {t : Ty} {x : t.den} {k : t.den → R3 β}, (frcT t x k).res = some e → (k x).res = some e
  | .int _, x, k, h => frcI_eq h
  | .str, x, k, h => by
    have h' : (frcL (ByteArray.data x).toList fun l => k (txt l)).res = some e := h
    have := frcL_eq (k := fun l => k (txt l)) h'
    rwa [txt_eq] at this
  | .bool, x, k, h => by
    have h' : (R3.br x (k true) (k false)).res = some e := h
    cases (x : Bool) <;> exact h'
  | .unit, x, k, h => h
  | .pair a b, x, k, h => frcT_eq (k := fun z => k (x.1, z)) (frcT_eq (t := a) (k := fun y => frcT b x.2 fun z => k (y, z)) h)
  | .sl t, l, k, h => frcT_go (fun x k h => frcT_eq (t := t) h) h
mutual
def frcS : SV → (SV → R3 β) → R3 β
  | .val v, k => frcV v fun v => k (.val v)
  | .agg l, k => frcSL l fun l => k (.agg l)
  | .tup l, k => frcSL l fun l => k (.tup l)
  | .dsl t l, k => frcT (.sl t) l fun l => k (.dsl t l)
  | x, k => k x
def frcSL : List SV → (List SV → R3 β) → R3 β
  | [], k => k []
  | x :: l, k => frcS x fun y => frcSL l fun l => k (y :: l)
end
mutual
theorem frcS_eq {e : β} : ∀ {v : SV} {k : SV → R3 β}, (frcS v k).res = some e → (k v).res = some e
  | .val v, k, h => by
    unfold frcS at h
    exact frcV_eq (k := fun v => k (.val v)) h
  | .agg l, k, h => by
    unfold frcS at h
    exact frcSL_eq (k := fun l => k (.agg l)) h
  | .tup l, k, h => by
    unfold frcS at h
    exact frcSL_eq (k := fun l => k (.tup l)) h
  | .any, k, h => by unfold frcS at h; exact h
  | .ptr _ _, k, h => by unfold frcS at h; exact h
  | .sl _ _ _ _, k, h => by unfold frcS at h; exact h
  | .mp _, k, h => by unfold frcS at h; exact h
  | .clo _ _ _, k, h => by unfold frcS at h; exact h
  | .dsl t l, k, h => by
    unfold frcS at h
    exact frcT_eq (t := .sl t) (k := fun l => k (.dsl t l)) h
  | .dpt _ _ _, k, h => by unfold frcS at h; exact h
  | .vec _, k, h => by unfold frcS at h; exact h
  | .wpt _ _ _ _, k, h => by unfold frcS at h; exact h
  | .emp, k, h => by unfold frcS at h; exact h
theorem frcSL_eq {e : β} : ∀ {l : List SV} {k : List SV → R3 β}, (frcSL l k).res = some e → (k l).res = some e
  | [], _, h => h
  | x :: l, k, h => by
    unfold frcSL at h
    have h1 := frcS_eq (k := fun y => frcSL l fun l => k (y :: l)) h
    exact frcSL_eq (k := fun l => k (x :: l)) h1
end
end
def frcO : OutE → R3 OutE
  | .ret v => frcS v fun v => .ok (.ret v)
  | .pan v => .ok (.pan v)
theorem frcO_eq {e e' : OutE} (h : (frcO e).res = some e') : e' = e := by
  cases e with
  | ret v =>
    have := frcS_eq (k := fun v => (.ok (.ret v) : R3 OutE)) h
    exact (Option.some.inj this).symm
  | pan v => exact (Option.some.inj h).symm
/-- the same contracts, for runs on given values -/
def frcCon (g : PCon) : PCon := fun f =>
  match g f with
  | some h => some fun vs => (h vs).bind frcO
  | none => none
theorem frcCon_ok {P : Program} {rd : Rd} {g : PCon} (hg : PConOk P rd g) : PConOk P rd (frcCon g) := by
  intro f h hf
  unfold frcCon at hf
  cases h2 : g f with
  | none => rw [h2] at hf; cases hf
  | some g' =>
    rw [h2] at hf
    simp only [Option.some.injEq] at hf
    subst hf
    refine ⟨(hg f g' h2).1, fun args e he => ?_⟩
    obtain ⟨a, h3, h4⟩ := R3.bind_some _ _ _ he
    rw [frcO_eq h4]
    exact (hg f g' h2).2 args a h3
end Go.SX

/-
  A symbolic executor: contracts over plain arguments of given types.
-/
namespace Go.SX
open Go.RowKit
set_option linter.unusedVariables false
set_option linter.unusedSimpArgs false

def Ty.wide : Ty → Bool
  | .pair _ _ => true
  | .unit => true
  | _ => false
/-- a plain value az an argument -/
def svT : (t : Ty) → t.den → SV
  | .pair a b, y => .agg (flatT (.pair a b) y)
  | .unit, _ => .agg []
  | .int k, x => .val (.int k x)
  | .str, x => .val (.string x)
  | .bool, x => .val (.bool x)
  | .sl t, l => .dsl t l
def SV.wide : SV → Bool
  | .agg _ => true
  | .val (.agg _) => true
  | _ => false
def argT (t : Ty) (x : SV) : Option t.den :=
  match x.cells with
  | some cs => bif t.wide == x.wide then match parseT t [] cs with
    | some (y, []) => some y
    | _ => none
    else none
  | none => none
@[reducible] def tupT : List Ty → Ty
  | [] => .unit
  | t :: ts => .pair t (tupT ts)
def argsT : (ts : List Ty) → List SV → Option (tupT ts).den
  | [], [] => some ()
  | t :: ts, x :: xs => match argT t x, argsT ts xs with
    | some y, some ys => some (y, ys)
    | _, _ => none
  | _, _ => none
def svTs : (ts : List Ty) → (tupT ts).den → List SV
  | [], _ => []
  | t :: ts, y => svT t y.1 :: svTs ts y.2
/-- a contract over plain arguments -/
def conA (ts : List Ty) (g : (tupT ts).den → R3 OutE) (vs : List SV) : R3 OutE :=
  match argsT ts vs with
  | some y => g y
  | none => .no
section
variable {E : Env} {ρ : Ctx} {w : World}
theorem svT_HC {t : Ty} {y : t.den} {u : Value} (hw : t.wide = false) (h : HC ρ.z t y [u]) : (svT t y).R ρ u := by
  cases t with
  | int k => have h' : [u] = [.int k y] := h; cases h'; rfl
  | str => have h' : [u] = [.string y] := h; cases h'; rfl
  | bool => have h' : [u] = [.bool y] := h; cases h'; rfl
  | unit => cases hw
  | pair a b => cases hw
  | sl t => exact h
theorem svT_wide {t : Ty} {y : t.den} {us : List Value} (hw : t.wide = true) (h : HC ρ.z t y us) : (svT t y).R ρ (.agg us.toArray) := by
  have h1 := flatT_R t y us h
  cases t with
  | unit => exact ⟨us, rfl, h1⟩
  | pair a b => exact ⟨us, rfl, h1⟩
  | _ => cases hw
theorem argT_sound {t : Ty} {x : SV} {y : t.den} {u : Value} (hM : Mem E ρ [] w) (hx : x.R ρ u) (h : argT t x = some y) : (svT t y).R ρ u := by
  unfold argT at h
  split at h
  · rename_i cs hcs
    cases hb : (t.wide == x.wide) with
    | false => rw [hb] at h; cases h
    | true =>
      rw [hb] at h
      simp only [cond_true] at h
      split at h
      · rename_i y0 hp
        cases h
        obtain ⟨ds, us', h1, h2, h3⟩ := parseT_sound hM t _ _ _ _ hp (atom_R hx hcs)
        rw [SV.RL] at h3
        subst h3
        rw [List.append_nil] at h1
        have hbe := eq_of_beq hb
        cases hw : t.wide with
        | true =>
          rw [hw] at hbe
          have h4 := svT_wide (ρ := ρ) hw h2
          cases x with
          | agg l =>
            obtain ⟨us, rfl, _⟩ := hx
            have h9 : us = ds := by simpa [Value.cells] using h1
            rw [h9]
            exact h4
          | val v =>
            obtain rfl : u = v := hx
            cases u with
            | agg cs' =>
              have h9 : cs'.toList = ds := by simpa [Value.cells] using h1
              rw [← h9] at h4
              exact h4
            | _ => cases hbe
          | _ => cases hbe
        | false =>
          rw [hw] at hbe
          by_cases ht : ∃ l, x = .tup l
          · obtain ⟨l, rfl⟩ := ht
            exfalso
            cases hcs
            revert hp
            cases t with
            | int k => intro h; cases h
            | str => intro h; cases h
            | bool => intro h; cases h
            | unit => cases hw
            | pair a b => cases hw
            | sl t => intro h; cases h
          · by_cases ht' : ∃ l, x = .val (.tuple l)
            · obtain ⟨l, rfl⟩ := ht'
              exfalso
              cases hcs
              revert hp
              cases t with
              | int k => intro h; cases h
              | str => intro h; cases h
              | bool => intro h; cases h
              | unit => cases hw
              | pair a b => cases hw
              | sl t => intro h; cases h
            · have := one_cell hx (fun l e => by subst e; cases hbe) (fun l e => ht ⟨l, e⟩) (fun l e => by subst e; cases hbe) (fun l e => ht' ⟨l, e⟩) (fun e => by subst e; cases hcs)
              rw [this] at h1
              rw [← h1] at h2
              exact svT_HC hw h2
      · cases h
  · cases h
theorem argsT_sound (hM : Mem E ρ [] w) : ∀ (ts : List Ty) (xs : List SV) (y : (tupT ts).den) (us : List Value), SV.RL ρ xs us → argsT ts xs = some y → SV.RL ρ (svTs ts y) us
  | [], [], y, us, hr, _ => hr
  | t :: ts, x :: xs, y, us, hr, h => by
    simp only [argsT] at h
    split at h
    · rename_i y1 ys h1 h2
      cases h
      obtain ⟨u, us', rfl, h3, h4⟩ := hr
      exact ⟨u, us', rfl, argT_sound hM h3 h1, argsT_sound hM ts xs ys us' h4 h2⟩
    · cases h
  | [], _ :: _, _, _, _, h => by cases h
  | _ :: _, [], _, _, _, h => by cases h
end
variable {P : Program}
theorem conA_ok {f : FuncId} {ts : List Ty} {g : (tupT ts).den → R3 OutE} (h : ∀ y e, (g y).res = some e → DPlain P f (svTs ts y) e) (vs : List SV) (e : OutE) (he : (conA ts g vs).res = some e) : DPlain P f vs e := by
  unfold conA at he
  split at he
  · rename_i y hy
    intro w z us hz hu
    exact h y e he w z us hz (argsT_sound (Mem.startIso (Rd.no_ok w _) hz) ts vs y us hu hy)
  · cases he
/-- a function is az its contract says -/
def FnC (P : Program) (f : FuncId) (ts : List Ty) (g : (tupT ts).den → R3 OutE) : Prop := HasBody P f ∧ ∀ y e, (g y).res = some e → DPlain P f (svTs ts y) e
def addC (f : FuncId) (ts : List Ty) (g : (tupT ts).den → R3 OutE) (T : PCon) : PCon := fun f' => bif f' == f then some (conA ts g) else T f'
theorem addC_ok {rd : Rd} {f : FuncId} {ts : List Ty} {g : (tupT ts).den → R3 OutE} {T : PCon} (h : FnC P f ts g) (hT : PConOk P rd T) : PConOk P rd (addC f ts g T) := by
  intro f' hh hf
  unfold addC at hf
  cases hb : (f' == f) with
  | true =>
    rw [hb] at hf
    cases hf
    rw [eq_of_beq hb]
    exact ⟨h.1, fun vs e he => conA_ok h.2 vs e he⟩
  | false => rw [hb] at hf; exact hT _ _ hf
/-- under a condition, a call hands this back -/
theorem FnC.of {f : FuncId} {ts : List Ty} {c : (tupT ts).den → Bool} {r : (tupT ts).den → OutE} (y0 : (tupT ts).den) (h0 : c y0 = true) (h : ∀ y, c y = true → HasBody P f ∧ DPlain P f (svTs ts y) (r y)) : FnC P f ts fun y => .need (c y) (.ok (r y)) :=
  ⟨(h y0 h0).1, fun y e he => by
    obtain ⟨h1, h2⟩ := R3.need_some he
    cases h2
    exact (h y h1).2⟩
/-- az memory holds it -/
noncomputable def wfX (t : Ty) (x : t.den) : Bool := @decide (Wf t x) (Classical.propDecidable _)
theorem wfX_iff {t : Ty} {x : t.den} : wfX t x = true ↔ Wf t x := by unfold wfX; rw [@decide_eq_true_iff]
/-- the numbers below a bound, but for these -/
def rest (n : Nat) (kept : List Nat) : List Nat := (List.range n).filter fun i => kept.all fun j => i != j
theorem wf_dflt : ∀ t : Ty, Wf t t.dflt
  | .int k => by cases k <;> rfl
  | .str => Nat.zero_le _
  | .bool => trivial
  | .unit => trivial
  | .pair a b => ⟨wf_dflt a, wf_dflt b⟩
  | .sl t => ⟨Nat.zero_le _, fun i x h => by cases h⟩
theorem wfX_dflt (t : Ty) : wfX t t.dflt = true := wfX_iff.2 (wf_dflt t)
/-- a contract that asks for arguments az memory holds them, and hands back this -/
theorem FnC.wf {f : FuncId} {ts : List Ty} {r : (tupT ts).den → OutE} (h : ∀ y, Wf (tupT ts) y → HasBody P f ∧ DPlain P f (svTs ts y) (r y)) : FnC P f ts fun y => .need (wfX (tupT ts) y) (.ok (r y)) :=
  FnC.of (tupT ts).dflt (wfX_dflt _) fun y hy => h y (wfX_iff.1 hy)
theorem wf_get {t : Ty} {l : List t.den} (h : Wf (.sl t) l) {i : Nat} (hi : i < l.length) : Wf t l[i] := h.2 i l[i] (List.getElem?_eq_getElem hi)
/-- what a round comes to, branch by branch -/
theorem roundF_cond {σ ρ : Type} (S : σ → Nat → St) (ret : ρ → Ex × St) (k : Nat) (c : Bool) (x y : Except ρ σ) : some (roundF S ret k (bif c then x else y)) = bif c then some (roundF S ret k x) else some (roundF S ret k y) := by cases c <;> rfl
theorem roundF_ok {σ ρ : Type} (S : σ → Nat → St) (ret : ρ → Ex × St) (k : Nat) (s : σ) : roundF S ret k (.ok s) = (.normal, S s (k + 1)) := rfl
theorem roundF_err {σ ρ : Type} (S : σ → Nat → St) (ret : ρ → Ex × St) (k : Nat) (r : ρ) : roundF S ret k (.error r) = ret r := rfl
theorem roundE {σ ρ : Type} {S : σ → Nat → St} {ret : ρ → Ex × St} {k : Nat} {c : Bool} {x y : Except ρ σ} {a b : Option (Ex × St)} (h1 : a = some (roundF S ret k x)) (h2 : b = some (roundF S ret k y)) : (bif c then a else b) = some (roundF S ret k (bif c then x else y)) := by cases c <;> assumption
theorem bool_bif (b : Bool) : (bif b then true else false) = b := by cases b <;> rfl
end Go.SX

/-
  Units: the table with Convert; the chapter's examples.
-/
namespace Go.Proofs.Ytmcejefeloljiaa
set_option linter.unusedSimpArgs false
set_option linter.unusedVariables false
open Go.RowKit Nm Go.SX

theorem xCon_ok : PConOk Try.prog Rd.no xCon := by
  intro f h hf
  unfold xCon at hf
  split at hf
  · cases hf
    refine ⟨(conv_plain [] 0 0 (false, bs [], bs [], ()) wf_nil rfl).1, fun vs e he => ?_⟩
    simp only at he
    split at he
    · split at he
      · rename_i l' hl
        obtain ⟨h1, h2⟩ := R3.need_some he
        rw [Bool.and_eq_true] at h1
        cases h2
        rw [asD_eq hl]
        exact (conv_plain _ _ _ (_, _, _, ()) (wfT_iff.1 h1.1) h1.2).2
      · cases he
    · split at he
      · rename_i l' hl
        obtain ⟨h1, h2⟩ := R3.need_some he
        rw [Bool.and_eq_true] at h1
        cases h2
        rw [asD_eq hl]
        intro w z us hz hu
        refine (conv_plain _ _ _ (_, _, _, ()) (wfT_iff.1 h1.1) h1.2).2 w z us hz ?_
        obtain ⟨u1, _, rfl, a1, u2, _, rfl, a2, u3, _, rfl, a3, u4, _, rfl, a4, rfl⟩ := hu
        exact ⟨_, _, rfl, a1, _, _, rfl, a2, _, _, rfl, a3, _, _, rfl, ⟨_, a4, ⟨_, _, rfl, rfl, _, _, rfl, rfl, _, _, rfl, rfl, rfl⟩⟩, rfl⟩
      · cases he
    · cases he
  · exact wCon_ok _ _ hf
/-- contracts for the examples -/
def wfVb (l : List unitT.den) : Bool := decide (l.length ≤ maxLen) && l.all fun u => inI u.2.2.1 && inI u.2.2.2.1
theorem resolve_C : FnC Try.prog 36 [.sl unitT] fun y => .need (wfVb y.1) (.ok (.ret (.tup [.dsl unitT (resolveF y.1).1, .val (.int .i64 (resolveF y.1).2)]))) :=
  FnC.of ([], ()) rfl fun y h => by
    unfold wfVb at h
    rw [Bool.and_eq_true, decide_eq_true_eq, List.all_eq_true] at h
    exact resolve_plain y.1 ⟨h.1, fun k hk => h.2 _ (List.getElem_mem hk)⟩
def sCon : PCon := frcCon (addC 36 [.sl unitT] (fun y => .need (wfVb y.1) (.ok (.ret (.tup [.dsl unitT (resolveF y.1).1, .val (.int .i64 (resolveF y.1).2)])))) r7Con.p)
theorem sCon_ok : PConOk Try.prog Rd.no sCon := frcCon_ok (addC_ok resolve_C (ECon.ok r7Con_ok))
set_option maxRecDepth 100000 in
theorem T_usane : sxE Try.prog noL sCon 80 34 [] = some (.ret (.val (.bool true))) := by kernel_rfl
theorem usane_C : FnC Try.prog 34 [] fun _ => .ok (.ret (.val (.bool true))) :=
  have h := sxE_sound pOk sCon_ok noL_ok 80 T_usane
  ⟨h.1, fun y e he => by cases he; exact h.2⟩
set_option maxRecDepth 100000 in
theorem T_wholeU (n : Int) : sxE Try.prog noL r7Con.p 60 39 [.val (.int .i64 n)] = (bif inI n && inI 1 then some (.ret (.agg [.val (.bool (newR n 1).1.neg), .val (.string (newR n 1).1.n), .val (.string (newR n 1).1.d)])) else none) := by kernel_rfl
theorem whole_C : FnC Try.prog 39 [.int .i64] fun y => .need (inI y.1) (.ok (.ret (rtS (newR y.1 1).1))) :=
  FnC.of (0, ()) rfl fun y h => sxE_sound pOk (ECon.ok r7Con_ok) noL_ok 60 (by rw [show svTs [Ty.int .i64] y = [.val (.int .i64 y.1)] from rfl, T_wholeU, h]; rfl)
noncomputable def yCon : PCon := addC 34 [] (fun _ => .ok (.ret (.val (.bool true)))) (addC 39 [.int .i64] (fun y => .need (inI y.1) (.ok (.ret (rtS (newR y.1 1).1)))) xCon)
theorem yCon_ok : PConOk Try.prog Rd.no yCon := addC_ok usane_C (addC_ok whole_C xCon_ok)
end Go.Proofs.Ytmcejefeloljiaa

/-
  Units: scales as rational numbers, and what Convert does to them.
-/
namespace Go.Proofs.Ytmcejefeloljiaa
set_option linter.unusedSimpArgs false
set_option linter.unusedVariables false
open Go.RowKit Nm Go.SX

theorem inv_bd {q : Rat} {k : Nat} (h : Bd q k) (h0 : 0 < q) : Bd q⁻¹ k := by
  have hn : 0 < q.num := by
    have := (Rat.lt_iff 0 q).1 h0
    simpa using this
  have e : q⁻¹ = mkRat (q.den : Int) q.num.natAbs := by
    rw [Rat.inv_def, ← Rat.divInt_ofNat]
    congr 1
    omega
  rw [e]
  exact mk_bd (by omega) (by simpa using h.2) h.1
theorem div_bd {p q : Rat} {i j : Nat} (hp : Bd p i) (hq : Bd q j) (h0 : 0 < q) : Bd (p / q) (i + j) := by
  rw [Rat.div_def]
  exact mul_bd hp (inv_bd hq h0)
/-- a ratio of one to a million, over such -/
theorem newU {n d : Int} (h1 : 1 ≤ n) (h2 : n ≤ 1000000) (h3 : 1 ≤ d) (h4 : d ≤ 1000000) : newR n d = (toR ((n : Rat) / (d : Rat)), 0) ∧ Bd ((n : Rat) / (d : Rat)) 3 ∧ 0 < (n : Rat) / (d : Rat) := by
  have hin : ∀ z : Int, 1 ≤ z → z ≤ 1000000 → inI z = true := fun z a b => by
    unfold inI
    rw [Bool.and_eq_true, decide_eq_true_eq, decide_eq_true_eq]
    omega
  have hd0 : (0 : Rat) < (d : Rat) := by
    have : ((0 : Int) : Rat) < (d : Rat) := Rat.intCast_lt_intCast.2 (by omega)
    simpa using this
  have hn0 : (0 : Rat) < (n : Rat) := by
    have : ((0 : Int) : Rat) < (n : Rat) := Rat.intCast_lt_intCast.2 (by omega)
    simpa using this
  refine ⟨new_toR (hin n h1 h2) (hin d h3 h4) (by omega), ?_, ?_⟩
  · have e : (n : Rat) / (d : Rat) = mkRat n d.natAbs := by
      rw [← Rat.divInt_ofNat, Rat.divInt_eq_div, show ((d.natAbs : Nat) : Int) = d by omega]
    rw [e]
    have len : ∀ z : Int, 1 ≤ z → z ≤ 1000000 → (enc z.natAbs).length ≤ 3 := fun z a b => by
      rw [enc_length_le]
      have : z.natAbs ≤ 1000000 := by omega
      omega
    refine mk_bd (by omega) (len n h1 h2) ?_
    have := len d h3 h4
    exact this
  · rw [Rat.div_def]
    exact Rat.mul_pos hn0 (Rat.inv_pos.2 hd0)
theorem newU1 : newR 1 1 = (toR 1, 0) ∧ Bd (1 : Rat) 3 ∧ (0 : Rat) < 1 := by
  have h := newU (n := 1) (d := 1) (by omega) (by omega) (by omega) (by omega)
  have e : ((1 : Int) : Rat) / ((1 : Int) : Rat) = 1 := by decide +kernel
  rw [e] at h
  exact h
/-- scales are positive, and short -/
theorem Res.scale {l x : List unitT.den} (h : Res l x) : ∀ (i : Nat) (hi : i < x.length), 3 * (i + 1) ≤ 256 → ∃ q : Rat, scU x[i] = toR q ∧ Bd q (3 * (i + 1)) ∧ 0 < q := by
  intro i
  induction i using Nat.strongRecOn with
  | ind i ih =>
    intro hi hb
    have hi' : i < l.length := by have := h.len; omega
    rcases stepU_cases (h.step i hi' hi) with ⟨_, _, _, h1⟩ | ⟨_, a1, a2, a3, a4, j, _, h2, h3, h4, h1⟩
    · refine ⟨1, ?_, newU1.2.1.mono (by omega), newU1.2.2⟩
      rw [h1]
      show (newR 1 1).1 = _
      rw [newU1.1]
    · have e : (x.take i).getD j unitT.dflt = x[j] := by
        rw [List.getD_eq_getElem?_getD, List.getElem?_take_of_lt h2, List.getElem?_eq_getElem (by omega)]
        rfl
      rw [e] at h1 h4
      obtain ⟨q, g1, g2, g3⟩ := ih j h2 (by omega) (by omega)
      obtain ⟨n1, n2, n3⟩ := newU a1 a2 a3 a4
      refine ⟨q * (((l[i]).2.2.1 : Rat) / ((l[i]).2.2.2.1 : Rat)), ?_, (mul_bd g2 n2).mono (by omega), Rat.mul_pos g3 n3⟩
      rw [h1]
      show (mulR (scU x[j]) (newR l[i].2.2.1 l[i].2.2.2.1).1).1 = _
      rw [g1, n1, mul_toR g2 n2 (by omega)]
theorem Res.check {l x : List unitT.den} (h : Res l x) : checkFU x = 0 := by
  unfold checkFU
  rw [resolve_iff.2 h.again]
  simp [eqLU_rfl]
/-- the index of a unit -/
theorem atU_get {x : List unitT.den} {a : Int} (h : outB x a = false) : ∃ h : a.toNat < x.length, atU x a = x[a.toNat] ∧ a = a.toNat := by
  unfold outB at h
  rw [Bool.or_eq_false_iff, decide_eq_false_iff_not, decide_eq_false_iff_not] at h
  have h1 : a.toNat < x.length := by omega
  refine ⟨h1, ?_, by omega⟩
  unfold atU
  rw [List.getD_eq_getElem?_getD, List.getElem?_eq_getElem h1]
  rfl
/-- whether amounts may be converted -/
def conB (x : List unitT.den) (a b : Int) : Bool := outB x a || outB x b || (atU x a).2.2.2.2.1 != (atU x b).2.2.2.2.1
theorem conv_no {l x : List unitT.den} (h : Res l x) {a b : Int} (r : Rt) (hb : conB x a b = true) : convF x a b r = (zR, 90) := by
  unfold convF
  rw [h.check]
  unfold conB at hb
  rw [hb]
  rfl
theorem Res.scaleZ {l x : List unitT.den} (h : Res l x) (h8 : x.length ≤ 8) {a : Int} (ha : outB x a = false) : ∃ q : Rat, scU (atU x a) = toR q ∧ Bd q 24 ∧ 0 < q := by
  obtain ⟨h1, h2, _⟩ := atU_get ha
  obtain ⟨q, g1, g2, g3⟩ := h.scale a.toNat h1 (by omega)
  exact ⟨q, by rw [h2, g1], g2.mono (by omega), g3⟩
theorem conv_yes {l x : List unitT.den} (h : Res l x) (h8 : x.length ≤ 8) {a b : Int} (hb : conB x a b = false) {q : Rat} {k : Nat} (hq : Bd q k) (hk : k + 48 ≤ 256) {p1 p2 : Rat} (e1 : scU (atU x a) = toR p1) (b1 : Bd p1 24) (e2 : scU (atU x b) = toR p2) (b2 : Bd p2 24) (g2 : 0 < p2) :
    convF x a b (toR q) = (toR (q * p1 / p2), 0) ∧ Bd (q * p1 / p2) (k + 48) := by
  have b3 := mul_bd hq b1
  refine ⟨?_, (div_bd b3 b2 g2).mono (by omega)⟩
  unfold convF
  rw [h.check]
  unfold conB at hb
  rw [hb, e1, e2, mul_toR hq b1 (by omega)]
  simp only [bne_self_eq_false, cond_false]
  rw [div_toR b3 b2 (by omega) (fun e => by rw [e] at g2; exact absurd g2 (by decide))]
  simp
theorem conB_parts {x : List unitT.den} {a b : Int} (h : conB x a b = false) : outB x a = false ∧ outB x b = false ∧ (atU x a).2.2.2.2.1 = (atU x b).2.2.2.2.1 := by
  unfold conB at h
  rw [Bool.or_eq_false_iff, Bool.or_eq_false_iff] at h
  exact ⟨h.1.1, h.1.2, by simpa using h.2⟩
theorem conB_mk {x : List unitT.den} {a b : Int} (h1 : outB x a = false) (h2 : outB x b = false) (h3 : (atU x a).2.2.2.2.1 = (atU x b).2.2.2.2.1) : conB x a b = false := by
  unfold conB
  rw [h1, h2, h3]
  simp
end Go.Proofs.Ytmcejefeloljiaa

/-
  What the law of a further unit comes to.
-/
namespace Go.Proofs.Ytmcejefeloljiaa
open Go.RowKit Nm Go.SX

set_option maxRecDepth 100000 in
theorem T_umore (l : List unitT.den) (u : unitT.den) (a b : Int) (r : ratT.den) : sxE Try.prog noL yCon 60 7 [.dsl unitT l, svT unitT u, .val (.int .i64 a), .val (.int .i64 b), svT ratT r] =
    bif wfT unitT.sl (l) then
      bif !fewU (l) then some (OutE.ret (SV.val (Value.bool true)))
      else
        bif decide ((↑(ByteArray.size r.snd.fst) : Int) > 40) then some (OutE.ret (SV.val (Value.bool true)))
        else
          bif decide ((↑(ByteArray.size r.snd.snd.fst) : Int) > 40) then some (OutE.ret (SV.val (Value.bool true)))
          else
            bif wfT unitT.sl (l) then
              bif !(resolveF (l)).snd == 0 then some (OutE.ret (SV.val (Value.bool true)))
              else
                bif decide ((↑l.length : Int) ≥ 8) then some (OutE.ret (SV.val (Value.bool true)))
                else
                  bif decide ((↑(ByteArray.size u.snd.snd.snd.snd.snd.fst.snd.fst) : Int) > 40) then
                    some (OutE.ret (SV.val (Value.bool true)))
                  else
                    bif decide ((↑(ByteArray.size u.snd.snd.snd.snd.snd.fst.snd.snd.fst) : Int) > 40) then
                      some (OutE.ret (SV.val (Value.bool true)))
                    else
                      bif decide ((0 : Nat) + (l).length ≤ 1048576) then
                        bif decide ((([] ++ l)).length + ([u]).length ≤ 1048576) then
                          bif wfT unitT.sl ((([] ++ l) ++ [u])) then
                            bif (resolveF ((([] ++ l) ++ [u]))).snd != 0 then
                              some
                                (OutE.ret
                                  (SV.val
                                    (Value.bool
                                      ((↑(resolveF ((([] ++ l) ++ [u]))).fst.length : Int) == 0))))
                            else
                              bif
                                  (↑(resolveF ((([] ++ l) ++ [u]))).fst.length : Int) !=
                                    IntKind.i64.wrap ((↑(resolveF (l)).fst.length : Int) + 1) then
                                some (OutE.ret (SV.val (Value.bool false)))
                              else
                                bif
                                    decide (0 ≤ (↑(resolveF (l)).fst.length : Int)) &&
                                      decide
                                        ((↑(resolveF (l)).fst.length : Int).toNat ≤
                                          (resolveF ((([] ++ l) ++ [u]))).fst.length) then
                                  bif
                                      wfT unitT.sl
                                        (List.take (↑(resolveF (l)).fst.length : Int).toNat
                                            (resolveF ((([] ++ l) ++ [u]))).fst) then
                                    bif
                                        !eqLU
                                            (List.take (↑(resolveF (l)).fst.length : Int).toNat
                                                (resolveF ((([] ++ l) ++ [u]))).fst)
                                            ((resolveF (l)).fst) then
                                      some (OutE.ret (SV.val (Value.bool false)))
                                    else
                                      bif decide (a ≥ (↑(resolveF (l)).fst.length : Int)) then
                                        some (OutE.ret (SV.val (Value.bool true)))
                                      else
                                        bif decide (b ≥ (↑(resolveF (l)).fst.length : Int)) then
                                          some (OutE.ret (SV.val (Value.bool true)))
                                        else
                                          bif
                                              wfT unitT.sl ((resolveF (l)).fst) &&
                                                (szB r.snd.fst && szB r.snd.snd.fst) then
                                            bif
                                                wfT unitT.sl
                                                    ((resolveF ((([] ++ l) ++ [u]))).fst) &&
                                                  (szB r.snd.fst && szB r.snd.snd.fst) then
                                              bif
                                                  (convF ((resolveF (l)).fst) a b
                                                            { neg := r.fst, n := r.snd.fst, d := r.snd.snd.fst }).fst.neg ==
                                                      (convF ((resolveF ((([] ++ l) ++ [u]))).fst) a
                                                            b
                                                            { neg := r.fst, n := r.snd.fst, d := r.snd.snd.fst }).fst.neg &&
                                                    ((convF ((resolveF (l)).fst) a b
                                                              { neg := r.fst, n := r.snd.fst, d := r.snd.snd.fst }).fst.n ==
                                                        (convF ((resolveF ((([] ++ l) ++ [u]))).fst)
                                                              a b
                                                              { neg := r.fst, n := r.snd.fst, d := r.snd.snd.fst }).fst.n &&
                                                      ((convF ((resolveF (l)).fst) a b
                                                                { neg := r.fst, n := r.snd.fst,
                                                                  d := r.snd.snd.fst }).fst.d ==
                                                          (convF
                                                                ((resolveF ((([] ++ l) ++ [u]))).fst)
                                                                a b
                                                                { neg := r.fst, n := r.snd.fst,
                                                                  d := r.snd.snd.fst }).fst.d &&
                                                        true)) then
                                                some
                                                  (OutE.ret
                                                    (SV.val
                                                      (Value.bool
                                                        ((convF ((resolveF (l)).fst) a b
                                                              { neg := r.fst, n := r.snd.fst, d := r.snd.snd.fst }).snd ==
                                                          (convF
                                                              ((resolveF ((([] ++ l) ++ [u]))).fst)
                                                              a b
                                                              { neg := r.fst, n := r.snd.fst, d := r.snd.snd.fst }).snd))))
                                              else some (OutE.ret (SV.val (Value.bool false)))
                                            else none
                                          else none
                                  else none
                                else none
                          else none
                        else none
                      else none
            else none
    else none := by kernel_rfl

end Go.Proofs.Ytmcejefeloljiaa

/-
  Units: the loops of the law of what is resolved.
-/
namespace Go.Proofs.Ytmcejefeloljiaa
set_option linter.unusedSimpArgs false
set_option linter.unusedVariables false
open Go.RowKit Nm Go.SX

def urAS (l x : List unitT.den) (k : Nat) : St := ⟨[.dsl unitT l] ++ anys 2 ++ [.dsl unitT x] ++ anys 58 ++ [.dsl unitT x, .val (.int .i64 x.length), .val (.int .i64 k)] ++ anys 106, [], []⟩
def urAN : Ex → Option (List Root × List Nat)
  | .normal => some ([], rest 171 [0, 3, 62, 63, 64])
  | .exit 0 => some ([], rest 171 [])
  | .ret => some ([], rest 171 [2])
  | _ => some ([], rest 171 [])
def urAK : List Nat := rest 171 [0, 3, 62, 63, 64]
def urBS (l x : List unitT.den) (k : Nat) (u : unitT.den) (s : Bool) (i : Nat) : St := ⟨[.dsl unitT l] ++ anys 2 ++ [.dsl unitT x] ++ anys 4 ++ [.ptr 0 0, .val (.bool s)] ++ anys 52 ++ [.dsl unitT x, .val (.int .i64 x.length), .val (.int .i64 k)] ++ anys 57 ++ [.dsl unitT (x.take k), .val (.int .i64 (x.take k).length), .val (.int .i64 i)] ++ anys 46, [.cells (flatT unitT u) 45 true], []⟩
def urBN : Ex → Option (List Root × List Nat)
  | .normal => some ([.n 0], rest 171 [0, 3, 8, 9, 62, 63, 64, 122, 123, 124])
  | .exit 0 => some ([.n 0], rest 171 [])
  | .exit 1 => some ([.n 0], rest 171 [0, 3, 62, 63, 64])
  | .exit 2 => some ([], rest 171 [0, 3, 9, 62, 63, 64])
  | .ret => some ([.n 0], rest 171 [2])
  | _ => some ([.n 0], rest 171 [])
def urBK : List Nat := rest 171 [0, 3, 8, 9, 62, 63, 64, 122, 123, 124]
/-- whether a unit is met from which the scale is that it should be -/
def eqR (a b : Rt) : Bool := a.neg == b.neg && (a.n == b.n && (a.d == b.d && true))
def metS (u : unitT.den) (k : Nat) (s : Bool) (v : unitT.den) : Except Unit Bool :=
  bif !eqN v.1 u.2.1 then .ok s
  else bif (newR u.2.2.1 u.2.2.2.1).2 == 0 then
    bif (mulR (scU v) (newR u.2.2.1 u.2.2.2.1).1).2 == 0 then
      bif u.2.2.2.2.1 == v.2.2.2.2.1 then .ok (eqR (scU u) (mulR (scU v) (newR u.2.2.1 u.2.2.2.1).1).1) else .ok false
    else .ok false
  else .ok false
def urBD (l x : List unitT.den) (k : Nat) (s : Bool) : Ex × St := (.exit 2, ⟨[.dsl unitT l] ++ anys 2 ++ [.dsl unitT x] ++ anys 5 ++ [.val (.bool s)] ++ anys 52 ++ [.dsl unitT x, .val (.int .i64 x.length), .val (.int .i64 k)] ++ anys 106, [], []⟩)
def urR (_ : Unit) : Ex × St := (.ret, ⟨anys 2 ++ [.val (.bool false)] ++ anys 168, [], []⟩)
def urAD (_ : Unit) : Ex × St := (.exit 0, ⟨anys 171, [], []⟩)
noncomputable def lawS (l x : List unitT.den) (k : Nat) (s : Unit) (u : unitT.den) : Except Unit Unit :=
  bif !eqN u.1 (l.getD k unitT.dflt).1 then .error ()
  else bif !eqN u.2.1 (l.getD k unitT.dflt).2.1 then .error ()
  else bif u.2.2.1 != (l.getD k unitT.dflt).2.2.1 then .error ()
  else bif u.2.2.2.1 != (l.getD k unitT.dflt).2.2.2.1 then .error ()
  else bif eqN u.2.1 (bs []) then
    bif u.2.2.2.2.1 != (k : Int) then .error () else bif !eqR (scU u) (newR 1 1).1 then .error () else .ok ()
  else bif exOk (foldE (metS u) (x.take k) 0 false) then
    bif !exV false (foldE (metS u) (x.take k) 0 false) then .error () else .ok ()
  else .error ()
noncomputable def urBL (l x : List unitT.den) (k : Nat) (u : unitT.den) : Loops := oneL 0 5 21 [.n 0] urBK (urBS l x k u false 0) (resR false () (urBD l x k) urR (foldE (metS u) (x.take k) 0 false)) noL
end Go.Proofs.Ytmcejefeloljiaa

/-
  What the loops of the law come to, a round at a time.
-/
namespace Go.Proofs.Ytmcejefeloljiaa
open Go.RowKit Nm Go.SX

set_option maxRecDepth 100000 in
theorem T_urB (l x : List unitT.den) (k : Nat) (u : unitT.den) (s : Bool) (i : Nat) : sxB Try.prog noL yCon 60 (5, 0) (loopAt Try.prog 5 21) (urBS l x k u s i) urBN =
    bif decide ((↑i : Int) < (↑(List.take k x).length : Int)) then
      bif inB (↑i : Int) (List.take k x).length then
        bif !ByteArray.toList ((List.take k x).getD (↑i : Int).toNat unitT.dflt).fst == ByteArray.toList u.snd.fst then
          some
            (Ex.normal,
              {
                t := [SV.dsl
                      unitT
                      l] ++ anys 2 ++ [SV.dsl
                      unitT
                      x] ++ anys 4 ++ [SV.ptr 0 0, SV.val (Value.bool s)] ++ anys 52 ++ [SV.dsl
                      unitT
                      x, SV.val (Value.int IntKind.i64 (↑x.length : Int)), SV.val (Value.int IntKind.i64 (↑k : Int))] ++ anys 57 ++ [SV.dsl
                      unitT
                      (List.take k x), SV.val (Value.int IntKind.i64 (↑(List.take k x).length : Int)), SV.val (Value.int IntKind.i64 (IntKind.i64.wrap ((↑i : Int) + 1)))] ++ anys 46,
                m :=
                  [Blk.cells
                      [SV.val (Value.string u.fst), SV.val (Value.string u.snd.fst),
                        SV.val (Value.int IntKind.i64 u.snd.snd.fst), SV.val (Value.int IntKind.i64 u.snd.snd.snd.fst),
                        SV.val (Value.int IntKind.i64 u.snd.snd.snd.snd.fst),
                        SV.val (Value.bool u.snd.snd.snd.snd.snd.fst.fst),
                        SV.val (Value.string u.snd.snd.snd.snd.snd.fst.snd.fst),
                        SV.val (Value.string u.snd.snd.snd.snd.snd.fst.snd.snd.fst)] 45 true],
                d := [] })
        else
          bif inI u.snd.snd.fst && inI u.snd.snd.snd.fst then
            bif
                szB ((List.take k x).getD (↑i : Int).toNat unitT.dflt).snd.snd.snd.snd.snd.fst.snd.fst &&
                    szB ((List.take k x).getD (↑i : Int).toNat unitT.dflt).snd.snd.snd.snd.snd.fst.snd.snd.fst &&
                  (szB (newR u.snd.snd.fst u.snd.snd.snd.fst).fst.n &&
                    szB (newR u.snd.snd.fst u.snd.snd.snd.fst).fst.d) then
              bif (newR u.snd.snd.fst u.snd.snd.snd.fst).snd == 0 then
                bif
                    (mulR
                          { neg := ((List.take k x).getD (↑i : Int).toNat unitT.dflt).snd.snd.snd.snd.snd.fst.fst,
                            n := ((List.take k x).getD (↑i : Int).toNat unitT.dflt).snd.snd.snd.snd.snd.fst.snd.fst,
                            d := ((List.take k x).getD (↑i : Int).toNat unitT.dflt).snd.snd.snd.snd.snd.fst.snd.snd.fst }
                          (newR u.snd.snd.fst u.snd.snd.snd.fst).fst).snd ==
                      0 then
                  bif u.snd.snd.snd.snd.fst == ((List.take k x).getD (↑i : Int).toNat unitT.dflt).snd.snd.snd.snd.fst then
                    some
                      (Ex.normal,
                        {
                          t := [SV.dsl
                                unitT
                                l] ++ anys 2 ++ [SV.dsl
                                unitT
                                x] ++ anys 4 ++ [SV.ptr 0 0, SV.val
                                (Value.bool
                                  (u.snd.snd.snd.snd.snd.fst.fst ==
                                      (mulR
                                            {
                                              neg :=
                                                ((List.take k x).getD (↑i : Int).toNat
                                                                unitT.dflt).snd.snd.snd.snd.snd.fst.fst,
                                              n :=
                                                ((List.take k x).getD (↑i : Int).toNat
                                                                  unitT.dflt).snd.snd.snd.snd.snd.fst.snd.fst,
                                              d :=
                                                ((List.take k x).getD (↑i : Int).toNat
                                                                    unitT.dflt).snd.snd.snd.snd.snd.fst.snd.snd.fst }
                                            (newR u.snd.snd.fst u.snd.snd.snd.fst).fst).fst.neg &&
                                    (u.snd.snd.snd.snd.snd.fst.snd.fst ==
                                        (mulR
                                              {
                                                neg :=
                                                  ((List.take k x).getD (↑i : Int).toNat
                                                                  unitT.dflt).snd.snd.snd.snd.snd.fst.fst,
                                                n :=
                                                  ((List.take k x).getD (↑i : Int).toNat
                                                                    unitT.dflt).snd.snd.snd.snd.snd.fst.snd.fst,
                                                d :=
                                                  ((List.take k x).getD (↑i : Int).toNat
                                                                      unitT.dflt).snd.snd.snd.snd.snd.fst.snd.snd.fst }
                                              (newR u.snd.snd.fst u.snd.snd.snd.fst).fst).fst.n &&
                                      (u.snd.snd.snd.snd.snd.fst.snd.snd.fst ==
                                          (mulR
                                                {
                                                  neg :=
                                                    ((List.take k x).getD (↑i : Int).toNat
                                                                    unitT.dflt).snd.snd.snd.snd.snd.fst.fst,
                                                  n :=
                                                    ((List.take k x).getD (↑i : Int).toNat
                                                                      unitT.dflt).snd.snd.snd.snd.snd.fst.snd.fst,
                                                  d :=
                                                    ((List.take k x).getD (↑i : Int).toNat
                                                                        unitT.dflt).snd.snd.snd.snd.snd.fst.snd.snd.fst }
                                                (newR u.snd.snd.fst u.snd.snd.snd.fst).fst).fst.d &&
                                        true))))] ++ anys 52 ++ [SV.dsl
                                unitT
                                x, SV.val (Value.int IntKind.i64 (↑x.length : Int)), SV.val (Value.int IntKind.i64 (↑k : Int))] ++ anys 57 ++ [SV.dsl
                                unitT
                                (List.take k x), SV.val (Value.int IntKind.i64 (↑(List.take k x).length : Int)), SV.val (Value.int IntKind.i64 (IntKind.i64.wrap ((↑i : Int) + 1)))] ++ anys 46,
                          m :=
                            [Blk.cells
                                [SV.val (Value.string u.fst), SV.val (Value.string u.snd.fst),
                                  SV.val (Value.int IntKind.i64 u.snd.snd.fst),
                                  SV.val (Value.int IntKind.i64 u.snd.snd.snd.fst),
                                  SV.val (Value.int IntKind.i64 u.snd.snd.snd.snd.fst),
                                  SV.val (Value.bool u.snd.snd.snd.snd.snd.fst.fst),
                                  SV.val (Value.string u.snd.snd.snd.snd.snd.fst.snd.fst),
                                  SV.val (Value.string u.snd.snd.snd.snd.snd.fst.snd.snd.fst)] 45 true],
                          d := [] })
                  else
                    some
                      (Ex.normal,
                        {
                          t := [SV.dsl
                                unitT
                                l] ++ anys 2 ++ [SV.dsl
                                unitT
                                x] ++ anys 4 ++ [SV.ptr 0 0, SV.val (Value.bool false)] ++ anys 52 ++ [SV.dsl
                                unitT
                                x, SV.val (Value.int IntKind.i64 (↑x.length : Int)), SV.val (Value.int IntKind.i64 (↑k : Int))] ++ anys 57 ++ [SV.dsl
                                unitT
                                (List.take k x), SV.val (Value.int IntKind.i64 (↑(List.take k x).length : Int)), SV.val (Value.int IntKind.i64 (IntKind.i64.wrap ((↑i : Int) + 1)))] ++ anys 46,
                          m :=
                            [Blk.cells
                                [SV.val (Value.string u.fst), SV.val (Value.string u.snd.fst),
                                  SV.val (Value.int IntKind.i64 u.snd.snd.fst),
                                  SV.val (Value.int IntKind.i64 u.snd.snd.snd.fst),
                                  SV.val (Value.int IntKind.i64 u.snd.snd.snd.snd.fst),
                                  SV.val (Value.bool u.snd.snd.snd.snd.snd.fst.fst),
                                  SV.val (Value.string u.snd.snd.snd.snd.snd.fst.snd.fst),
                                  SV.val (Value.string u.snd.snd.snd.snd.snd.fst.snd.snd.fst)] 45 true],
                          d := [] })
                else
                  some
                    (Ex.normal,
                      {
                        t := [SV.dsl
                              unitT
                              l] ++ anys 2 ++ [SV.dsl
                              unitT
                              x] ++ anys 4 ++ [SV.ptr 0 0, SV.val (Value.bool false)] ++ anys 52 ++ [SV.dsl
                              unitT
                              x, SV.val (Value.int IntKind.i64 (↑x.length : Int)), SV.val (Value.int IntKind.i64 (↑k : Int))] ++ anys 57 ++ [SV.dsl
                              unitT
                              (List.take k x), SV.val (Value.int IntKind.i64 (↑(List.take k x).length : Int)), SV.val (Value.int IntKind.i64 (IntKind.i64.wrap ((↑i : Int) + 1)))] ++ anys 46,
                        m :=
                          [Blk.cells
                              [SV.val (Value.string u.fst), SV.val (Value.string u.snd.fst),
                                SV.val (Value.int IntKind.i64 u.snd.snd.fst),
                                SV.val (Value.int IntKind.i64 u.snd.snd.snd.fst),
                                SV.val (Value.int IntKind.i64 u.snd.snd.snd.snd.fst),
                                SV.val (Value.bool u.snd.snd.snd.snd.snd.fst.fst),
                                SV.val (Value.string u.snd.snd.snd.snd.snd.fst.snd.fst),
                                SV.val (Value.string u.snd.snd.snd.snd.snd.fst.snd.snd.fst)] 45 true],
                        d := [] })
              else
                some
                  (Ex.normal,
                    {
                      t := [SV.dsl
                            unitT
                            l] ++ anys 2 ++ [SV.dsl
                            unitT
                            x] ++ anys 4 ++ [SV.ptr 0 0, SV.val (Value.bool false)] ++ anys 52 ++ [SV.dsl
                            unitT
                            x, SV.val (Value.int IntKind.i64 (↑x.length : Int)), SV.val (Value.int IntKind.i64 (↑k : Int))] ++ anys 57 ++ [SV.dsl
                            unitT
                            (List.take k x), SV.val (Value.int IntKind.i64 (↑(List.take k x).length : Int)), SV.val (Value.int IntKind.i64 (IntKind.i64.wrap ((↑i : Int) + 1)))] ++ anys 46,
                      m :=
                        [Blk.cells
                            [SV.val (Value.string u.fst), SV.val (Value.string u.snd.fst),
                              SV.val (Value.int IntKind.i64 u.snd.snd.fst),
                              SV.val (Value.int IntKind.i64 u.snd.snd.snd.fst),
                              SV.val (Value.int IntKind.i64 u.snd.snd.snd.snd.fst),
                              SV.val (Value.bool u.snd.snd.snd.snd.snd.fst.fst),
                              SV.val (Value.string u.snd.snd.snd.snd.snd.fst.snd.fst),
                              SV.val (Value.string u.snd.snd.snd.snd.snd.fst.snd.snd.fst)] 45 true],
                      d := [] })
            else none
          else none
      else none
    else
      some
        (Ex.exit 2,
          {
            t := [SV.dsl
                  unitT
                  l] ++ anys 2 ++ [SV.dsl
                  unitT
                  x] ++ anys 5 ++ [SV.val (Value.bool s)] ++ anys 52 ++ [SV.dsl
                  unitT
                  x, SV.val (Value.int IntKind.i64 (↑x.length : Int)), SV.val (Value.int IntKind.i64 (↑k : Int))] ++ anys 106,
            m := [], d := [] }) := by kernel_rfl
set_option maxRecDepth 100000 in
theorem T_urA (l x : List unitT.den) (k : Nat) : sxB Try.prog (urBL l x k (x.getD k unitT.dflt)) yCon 60 (5, 0) (loopAt Try.prog 5 12) (urAS l x k) urAN =
    bif decide ((↑k : Int) < (↑x.length : Int)) then
      bif inB (↑k : Int) x.length then
        bif inB (↑k : Int) l.length then
          bif
              !ByteArray.toList (x.getD (↑k : Int).toNat unitT.dflt).fst ==
                  ByteArray.toList (l.getD (↑k : Int).toNat unitT.dflt).fst then
            some
              (Ex.ret,
                {
                  t := anys 2 ++ [SV.val (Value.bool false)] ++ anys 168,
                  m := [], d := [] })
          else
            bif inB (↑k : Int) l.length then
              bif
                  !ByteArray.toList (x.getD (↑k : Int).toNat unitT.dflt).snd.fst ==
                      ByteArray.toList (l.getD (↑k : Int).toNat unitT.dflt).snd.fst then
                some
                  (Ex.ret,
                    {
                      t := anys 2 ++ [SV.val (Value.bool false)] ++ anys 168,
                      m := [], d := [] })
              else
                bif inB (↑k : Int) l.length then
                  bif
                      (x.getD (↑k : Int).toNat unitT.dflt).snd.snd.fst !=
                        (l.getD (↑k : Int).toNat unitT.dflt).snd.snd.fst then
                    some
                      (Ex.ret,
                        {
                          t := anys 2 ++ [SV.val (Value.bool false)] ++ anys 168,
                          m := [], d := [] })
                  else
                    bif inB (↑k : Int) l.length then
                      bif
                          (x.getD (↑k : Int).toNat unitT.dflt).snd.snd.snd.fst !=
                            (l.getD (↑k : Int).toNat unitT.dflt).snd.snd.snd.fst then
                        some
                          (Ex.ret,
                            {
                              t := anys 2 ++ [SV.val (Value.bool false)] ++ anys 168,
                              m := [], d := [] })
                      else
                        bif ByteArray.toList (x.getD (↑k : Int).toNat unitT.dflt).snd.fst == (bs []).toList then
                          bif (x.getD (↑k : Int).toNat unitT.dflt).snd.snd.snd.snd.fst != (↑k : Int) then
                            some
                              (Ex.ret,
                                {
                                  t := anys 2 ++ [SV.val (Value.bool false)] ++ anys 168,
                                  m := [], d := [] })
                          else
                            bif
                                !((x.getD (↑k : Int).toNat unitT.dflt).snd.snd.snd.snd.snd.fst.fst == (newR 1 1).fst.neg &&
                                    ((x.getD (↑k : Int).toNat unitT.dflt).snd.snd.snd.snd.snd.fst.snd.fst ==
                                        (newR 1 1).fst.n &&
                                      ((x.getD (↑k : Int).toNat unitT.dflt).snd.snd.snd.snd.snd.fst.snd.snd.fst ==
                                          (newR 1 1).fst.d &&
                                        true))) then
                              some
                                (Ex.ret,
                                  {
                                    t := anys 2 ++ [SV.val (Value.bool false)] ++ anys 168,
                                    m := [], d := [] })
                            else
                              some
                                (Ex.normal,
                                  {
                                    t := [SV.dsl
                                          unitT
                                          l] ++ anys 2 ++ [SV.dsl
                                          unitT
                                          x] ++ anys 58 ++ [SV.dsl
                                          unitT
                                          x, SV.val (Value.int IntKind.i64 (↑x.length : Int)), SV.val (Value.int IntKind.i64 (IntKind.i64.wrap ((↑k : Int) + 1)))] ++ anys 106,
                                    m := [], d := [] })
                        else
                          bif decide (0 ≤ (↑k : Int)) && decide ((↑k : Int).toNat ≤ x.length) then
                            bif
                                eqS
                                  {
                                    t := [SV.dsl
                                          unitT
                                          l] ++ anys 2 ++ [SV.dsl
                                          unitT
                                          x] ++ anys 4 ++ [SV.ptr 0 0, SV.val (Value.bool false)] ++ anys 52 ++ [SV.dsl
                                          unitT
                                          x, SV.val (Value.int IntKind.i64 (↑x.length : Int)), SV.val (Value.int IntKind.i64 (↑k : Int))] ++ anys 57 ++ [SV.dsl
                                          unitT
                                          (List.take (↑k : Int).toNat x), SV.val (Value.int IntKind.i64 (↑(List.take (↑k : Int).toNat x).length : Int)), SV.val (Value.int IntKind.i64 0)] ++ anys 46,
                                    m :=
                                      [Blk.cells
                                          [SV.val (Value.string (x.getD (↑k : Int).toNat unitT.dflt).fst),
                                            SV.val (Value.string (x.getD (↑k : Int).toNat unitT.dflt).snd.fst),
                                            SV.val (Value.int IntKind.i64 (x.getD (↑k : Int).toNat unitT.dflt).snd.snd.fst),
                                            SV.val
                                              (Value.int IntKind.i64 (x.getD (↑k : Int).toNat unitT.dflt).snd.snd.snd.fst),
                                            SV.val
                                              (Value.int IntKind.i64
                                                (x.getD (↑k : Int).toNat unitT.dflt).snd.snd.snd.snd.fst),
                                            SV.val
                                              (Value.bool (x.getD (↑k : Int).toNat unitT.dflt).snd.snd.snd.snd.snd.fst.fst),
                                            SV.val
                                              (Value.string
                                                (x.getD (↑k : Int).toNat unitT.dflt).snd.snd.snd.snd.snd.fst.snd.fst),
                                            SV.val
                                              (Value.string
                                                (x.getD (↑k : Int).toNat unitT.dflt).snd.snd.snd.snd.snd.fst.snd.snd.fst)] 45 true],
                                    d := [] }
                                  (urBS l x k (x.getD k unitT.dflt) false 0) then
                              bif exOk (foldE (metS (x.getD k unitT.dflt)) (List.take k x) 0 false) then
                                bif !exV false (foldE (metS (x.getD k unitT.dflt)) (List.take k x) 0 false) then
                                  some
                                    (Ex.ret,
                                      {
                                        t := anys 2 ++ [SV.val (Value.bool false)] ++ anys 168,
                                        m := [], d := [] })
                                else
                                  some
                                    (Ex.normal,
                                      {
                                        t := [SV.dsl
                                              unitT
                                              l] ++ anys 2 ++ [SV.dsl
                                              unitT
                                              x] ++ anys 58 ++ [SV.dsl
                                              unitT
                                              x, SV.val (Value.int IntKind.i64 (↑x.length : Int)), SV.val (Value.int IntKind.i64 (IntKind.i64.wrap ((↑k : Int) + 1)))] ++ anys 106,
                                        m := [], d := [] })
                              else
                                some
                                  (Ex.ret,
                                    {
                                      t := anys 2 ++ [SV.val (Value.bool false)] ++ anys 168,
                                      m := [], d := [] })
                            else none
                          else none
                    else none
                else none
            else none
        else none
      else none
    else
      some
        (Ex.exit 0,
          {
            t := anys 171,
            m := [], d := [] }) := by kernel_rfl

end Go.Proofs.Ytmcejefeloljiaa

/-
  Units: what the law of what is resolved comes to.
-/
namespace Go.Proofs.Ytmcejefeloljiaa
set_option linter.unusedSimpArgs false
set_option linter.unusedVariables false
open Go.RowKit Nm Go.SX

theorem lt_dec {k n : Nat} (h : k < n) : decide ((k : Int) < (n : Int)) = true := decide_eq_true (by omega)
theorem wf_sz {u : unitT.den} (h : Wf unitT u) : (szB u.2.2.2.2.2.1.2.1 && szB u.2.2.2.2.2.1.2.2.1) = true := by
  have := h.2.2.2.2.2.1
  rw [szB_iff.2 this.2.1, szB_iff.2 this.2.2.1]
  rfl
theorem wf_nd {u : unitT.den} (h : Wf unitT u) : (inI u.2.2.1 && inI u.2.2.2.1) = true := by
  rw [wf_inI h.2.2.1, wf_inI h.2.2.2.1]
  rfl
theorem sz_new (a b : Int) : (szB (newR a b).1.n && szB (newR a b).1.d) = true := new_sz a b
theorem urB_at : (loopsAt Try.prog 5 21).length = 1 := by kernel_rfl
theorem urA_at : (loopsAt Try.prog 5 12).length = 1 := by kernel_rfl
theorem urB_tree (l x : List unitT.den) (k : Nat) (u : unitT.den) (hx : Wf (.sl unitT) x) (hu : Wf unitT u) (s : Bool) (i : Nat) (hi : i < (x.take k).length) :
    sxB Try.prog noL yCon 60 (5, 0) (loopAt Try.prog 5 21) (urBS l x k u s i) urBN = some (roundF (urBS l x k u) urR i (metS u i s (x.take k)[i])) := by
  rw [T_urB]
  have hl : i + 1 ≤ maxLen := by have := hx.1; rw [List.length_take] at hi; omega
  have hv : Wf unitT (x.take k)[i] := by rw [List.getElem_take]; exact wf_get hx _
  have h1 := wf_sz hv
  simp only [lt_dec hi, inB_nat hi, getD_get hi, wrapN hl, wf_nd hu, h1, sz_new, Bool.and_self, cond_true, eqLN]
  unfold metS
  exact roundE rfl (roundE (roundE (roundE rfl rfl) rfl) rfl)
theorem urBL_ok (l x : List unitT.den) (k : Nat) (u : unitT.den) (hx : Wf (.sl unitT) x) (hu : Wf unitT u) : LoopsOk Try.prog Rd.no (urBL l x k u) := by
  refine fold_ok (σ := Bool) (ρ := Unit) (S := urBS l x k u) urBN 60 (fun _ _ => True) pOk yCon_ok noL_ok urB_at noL_ok ?_ ?_ ?_ ?_ ?_ ?_
  · exact fun s => ⟨by simp [urBD], rfl⟩
  · exact fun s => ⟨by simp [urR], rfl⟩
  · exact fun s i hi _ => urB_tree l x k u hx hu s i hi
  · exact fun _ _ _ _ _ _ => trivial
  · intro s _
    rw [T_urB, decide_eq_false (by omega : ¬ ((x.take k).length : Int) < (x.take k).length)]
    rfl
  · trivial
theorem urA_tree (l x : List unitT.den) (hl : Wf (.sl unitT) l) (hx : Wf (.sl unitT) x) (e : x.length ≤ l.length) (k : Nat) (hk : k < x.length) :
    sxB Try.prog (urBL l x k (x.getD k unitT.dflt)) yCon 60 (5, 0) (loopAt Try.prog 5 12) (urAS l x k) urAN = some (roundF (fun _ k => urAS l x k) urR k (lawS l x k () x[k])) := by
  rw [T_urA]
  have hm : k + 1 ≤ maxLen := by have := hx.1; omega
  have hk' : k < l.length := Nat.lt_of_lt_of_le hk e
  have gx : x.getD k unitT.dflt = x[k] := by rw [List.getD_eq_getElem?_getD, List.getElem?_eq_getElem hk]; rfl
  have h0 : decide (0 ≤ (k : Int)) = true := decide_eq_true (by omega)
  have h1 : decide (k ≤ x.length) = true := decide_eq_true (by omega)
  simp only [lt_dec hk, inB_nat hk, inB_nat hk', Int.toNat_natCast, gx, wrapN hm, h0, h1, Bool.and_self, cond_true, eqLN]
  unfold lawS
  rw [eqS_cond]
  · exact roundE rfl (roundE rfl (roundE rfl (roundE rfl (roundE (roundE rfl (roundE rfl rfl)) (roundE (roundE rfl rfl) rfl)))))
  · kernel_rfl
noncomputable def urAL (l x : List unitT.den) : Loops := oneL 0 5 12 [] urAK (urAS l x 0) (resR () () urAD urR (foldE (lawS l x) x 0 ())) noL
theorem urAL_ok (l x : List unitT.den) (hl : Wf (.sl unitT) l) (hx : Wf (.sl unitT) x) (e : x.length ≤ l.length) : LoopsOk Try.prog Rd.no (urAL l x) := by
  refine fold_okL (σ := Unit) (ρ := Unit) (S := fun _ k => urAS l x k) (lp := fun _ k => urBL l x k (x.getD k unitT.dflt)) urAN 60 (fun _ _ => True) pOk yCon_ok ?_ urA_at noL_ok ?_ ?_ ?_ ?_ ?_ ?_
  · intro s k _ hk
    refine urBL_ok l x k _ hx ?_
    by_cases h : k < x.length
    · rw [List.getD_eq_getElem?_getD, List.getElem?_eq_getElem h]
      exact wf_get hx h
    · rw [List.getD_eq_getElem?_getD, List.getElem?_eq_none (by omega)]
      exact wf_dflt unitT
  · exact fun s => ⟨by simp [urAD], rfl⟩
  · exact fun s => ⟨by simp [urR], rfl⟩
  · exact fun s k hk _ => urA_tree l x hl hx e k hk
  · exact fun _ _ _ _ _ _ => trivial
  · intro s _
    rw [T_urA, decide_eq_false (by omega : ¬ (x.length : Int) < x.length)]
    rfl
  · trivial
/-- whichever unit has the name is as it should be: then it is met -/
theorem met_ok {u : unitT.den} {g : unitT.den → Bool} (hg : ∀ s k v, metS u k s v = .ok (bif eqN v.1 u.2.1 then g v else s)) : ∀ (y : List unitT.den) (k : Nat) (s : Bool), (∀ v ∈ y, v.1 = u.2.1 → g v = true) → (s = true ∨ ∃ v ∈ y, v.1 = u.2.1) → foldE (metS u) y k s = .ok true
  | [], k, s, _, h => by
    rcases h with rfl | ⟨v, hv, _⟩
    · rfl
    · cases hv
  | v :: y, k, s, h, hs => by
    rw [foldE_cons, hg]
    simp only
    refine met_ok hg y (k + 1) _ (fun w hw => h w (List.mem_cons_of_mem _ hw)) ?_
    cases hb : eqN v.1 u.2.1 with
    | true => exact .inl (h v List.mem_cons_self (of_decide_eq_true hb))
    | false =>
      rcases hs with rfl | ⟨w, hw, he⟩
      · exact .inl rfl
      · rcases List.mem_cons.1 hw with rfl | hw
        · exact absurd he (of_decide_eq_false hb)
        · exact .inr ⟨w, hw, he⟩
def metG (u v : unitT.den) : Bool :=
  bif (newR u.2.2.1 u.2.2.2.1).2 == 0 then
    bif (mulR (scU v) (newR u.2.2.1 u.2.2.2.1).1).2 == 0 then
      bif u.2.2.2.2.1 == v.2.2.2.2.1 then eqR (scU u) (mulR (scU v) (newR u.2.2.1 u.2.2.2.1).1).1 else false
    else false
  else false
theorem metS_eq (u : unitT.den) (k : Nat) (s : Bool) (v : unitT.den) : metS u k s v = .ok (bif eqN v.1 u.2.1 then metG u v else s) := by
  unfold metS metG
  cases eqN v.1 u.2.1 with
  | false => rfl
  | true =>
    cases (newR u.2.2.1 u.2.2.2.1).2 == 0 <;> cases (mulR (scU v) (newR u.2.2.1 u.2.2.2.1).1).2 == 0 <;> cases u.2.2.2.2.1 == v.2.2.2.2.1 <;> rfl
theorem eqR_self (a : Rt) : eqR a a = true := (rt_eq a a).2 rfl
theorem eqN_self (a : ByteArray) : eqN a a = true := decide_eq_true rfl
theorem Res.uniq {l x : List unitT.den} (h : Res l x) {i j : Nat} (hi : i < x.length) (hj : j < x.length) (e : x[i].1 = x[j].1) : i = j := by
  have h1 := h.again.once i hi
  have h2 := h.again.once j hj
  rw [e, h2] at h1
  omega
theorem law_ok {l x : List unitT.den} (h : Res l x) : foldE (lawS l x) x 0 () = .ok () := by
  refine foldE_ok (fun _ => ()) x 0 fun k hk => ?_
  rw [Nat.zero_add]
  have hk' : k < l.length := by have := h.len; omega
  have hl : l.getD k unitT.dflt = l[k] := by rw [List.getD_eq_getElem?_getD, List.getElem?_eq_getElem hk']; rfl
  have hc := h.core hk' hk
  unfold core at hc
  simp only [Prod.mk.injEq] at hc
  obtain ⟨c1, c2, c3, c4⟩ := hc
  unfold lawS
  rw [hl, c1, c2, c3, c4]
  simp only [eqN_self, Bool.not_true, bne_self_eq_false, cond_false]
  have hst := h.again.step k hk hk
  rcases stepU_cases hst with ⟨h1, _, _, h2⟩ | ⟨h1, _, _, _, _, j, hj, hjk, h3, h4, h2⟩
  · rw [← c2, h1, eqN_self, cond_true]
    have e1 : x[k].2.2.2.2.1 = (k : Int) := by rw [h2]; rfl
    have e2 : scU x[k] = (newR 1 1).1 := by rw [h2]; rfl
    rw [e1, e2, eqR_self, bne_self_eq_false]
    rfl
  · have hne : eqN l[k].2.1 (bs []) = false := by rw [← c2]; exact decide_eq_false h1
    rw [hne, cond_false]
    obtain ⟨hjx, hjn⟩ := findF_some hj (by omega)
    simp only [Int.toNat_natCast] at hjx hjn
    have hgj : (x.take k).getD j unitT.dflt = x[j] := by rw [List.getD_eq_getElem?_getD, List.getElem?_take_of_lt hjk, List.getElem?_eq_getElem hjx]; rfl
    rw [hgj] at h4 h2
    have key : foldE (metS x[k]) (x.take k) 0 false = .ok true := by
      refine met_ok (g := metG x[k]) (fun s i v => metS_eq _ _ _ _) _ _ _ ?_ (.inr ⟨x[j], ?_, hjn⟩)
      · intro v hv hvn
        obtain ⟨i, hi, rfl⟩ := List.mem_iff_getElem.1 hv
        rw [List.length_take] at hi
        rw [List.getElem_take] at hvn ⊢
        have : i = j := h.uniq (by omega) hjx (hvn.trans hjn.symm)
        subst this
        unfold metG
        have e1 : x[k].2.2.2.2.1 = x[i].2.2.2.2.1 := (congrArg (fun u : unitT.den => u.2.2.2.2.1) h2).trans rfl
        have e2 : scU x[k] = (mulR (scU x[i]) (newR x[k].2.2.1 x[k].2.2.2.1).1).1 := (congrArg scU h2).trans rfl
        rw [h3, h4, e1, ← e2, eqR_self]
        simp
      · rw [List.mem_iff_getElem]
        exact ⟨j, by rw [List.length_take]; omega, by rw [List.getElem_take]⟩
    rw [key]
    rfl
end Go.Proofs.Ytmcejefeloljiaa

/-
  What the law of what is resolved comes to.
-/
namespace Go.Proofs.Ytmcejefeloljiaa
open Go.RowKit Nm Go.SX

set_option maxRecDepth 100000 in
theorem T_uresolved (l : List unitT.den) : sxE Try.prog (urAL l (resolveF l).1) yCon 60 5 [.dsl unitT l] =
    bif wfT unitT.sl (l) then
      bif !fewU (l) then some (OutE.ret (SV.val (Value.bool true)))
      else
        bif wfT unitT.sl (l) then
          bif (resolveF (l)).snd != 0 then
            bif (↑(resolveF (l)).fst.length : Int) == 0 then
              bif wfT unitT.sl (l) then
                some (OutE.ret (SV.val (Value.bool (checkFU (l) == (resolveF (l)).snd))))
              else none
            else some (OutE.ret (SV.val (Value.bool false)))
          else
            bif wfT unitT.sl ((resolveF (l)).fst) then
              bif (resolveF ((resolveF (l)).fst)).snd != 0 then some (OutE.ret (SV.val (Value.bool false)))
              else
                bif wfT unitT.sl ((resolveF (l)).fst) then
                  bif checkFU ((resolveF (l)).fst) != 0 then some (OutE.ret (SV.val (Value.bool false)))
                  else
                    bif wfT unitT.sl ((resolveF (l)).fst) then
                      bif !eqLU ((resolveF (l)).fst) ((resolveF ((resolveF (l)).fst)).fst) then
                        some (OutE.ret (SV.val (Value.bool false)))
                      else
                        bif (↑(resolveF (l)).fst.length : Int) != (↑l.length : Int) then
                          some (OutE.ret (SV.val (Value.bool false)))
                        else
                          bif
                              eqS
                                {
                                  t := [SV.dsl
                                        unitT
                                        l] ++ anys 2 ++ [SV.dsl
                                        unitT
                                        (resolveF (l)).fst] ++ anys 58 ++ [SV.dsl
                                        unitT
                                        (resolveF (l)).fst, SV.val (Value.int IntKind.i64 (↑(resolveF (l)).fst.length : Int)), SV.val (Value.int IntKind.i64 0)] ++ anys 106,
                                  m := [], d := [] }
                                (urAS l (resolveF l).fst 0) then
                            bif exOk (foldE (lawS l (resolveF l).fst) (resolveF l).fst 0 ()) then
                              some (OutE.ret (SV.val (Value.bool true)))
                            else some (OutE.ret (SV.val (Value.bool false)))
                          else none
                    else none
                else none
            else none
        else none
    else none := by kernel_rfl

end Go.Proofs.Ytmcejefeloljiaa

