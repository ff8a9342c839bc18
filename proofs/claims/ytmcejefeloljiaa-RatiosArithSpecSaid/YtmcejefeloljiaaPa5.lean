/-
  What the symbolic executor shows of the functions of package ratios.
-/
import Derived.Test.YtmcejefeloljiaaPa4
namespace Go.Proofs.Ytmcejefeloljiaa
open Go.RowKit Nm Go.SX

set_option maxRecDepth 100000 in
theorem T_new (n d : Int) : sxEnd Try.prog Rd.no ratCon.p 40 14 [.int .i64 n, .int .i64 d] =
    bif d == 0 then
      some
        (Ending.returned
          (Value.tuple
            {
              toList :=
                [Value.agg { toList := [Value.bool false, Value.string (bs []), Value.string (bs [])] },
                  Value.int IntKind.i64 71] }))
    else
      bif inI n then
        bif inI d then
          bif szB (encS n.natAbs) && szB (encS d.natAbs) then
            bif (overO { neg := !decide (n < 0) == decide (d < 0), n := encS n.natAbs } (encS d.natAbs)).isSome then
              some
                (Ending.returned
                  (Value.tuple
                    {
                      toList :=
                        [Value.agg
                            {
                              toList :=
                                [Value.bool
                                    ((overO { neg := !decide (n < 0) == decide (d < 0), n := encS n.natAbs }
                                            (encS d.natAbs)).getD
                                        zR).neg,
                                  Value.string
                                    ((overO { neg := !decide (n < 0) == decide (d < 0), n := encS n.natAbs }
                                            (encS d.natAbs)).getD
                                        zR).n,
                                  Value.string
                                    ((overO { neg := !decide (n < 0) == decide (d < 0), n := encS n.natAbs }
                                            (encS d.natAbs)).getD
                                        zR).d] },
                          Value.int IntKind.i64 0] }))
            else
              some
                (Ending.panicked
                  [{ v := Value.iface 174 (Value.agg { toList := [Value.int IntKind.i64 2] }), recovered := false }])
          else none
        else none
      else none := by kernel_rfl

set_option maxRecDepth 100000 in
theorem T_add (n m : Bool) (a b c d : ByteArray) : sxEnd Try.prog Rd.no ratCon.p 40 24 [.agg #[.bool n, .string a, .string b], .agg #[.bool m, .string c, .string d]] =
    bif szB a && szB b then
      bif checkR { neg := n, n := a, d := b } != 0 then
        bif checkR { neg := n, n := a, d := b } != 0 then
          some
            (Ending.returned
              (Value.tuple
                {
                  toList :=
                    [Value.agg { toList := [Value.bool false, Value.string (bs []), Value.string (bs [])] },
                      Value.int IntKind.i64 (checkR { neg := n, n := a, d := b })] }))
        else
          some
            (Ending.returned
              (Value.tuple
                {
                  toList :=
                    [Value.agg { toList := [Value.bool false, Value.string (bs []), Value.string (bs [])] },
                      Value.int IntKind.i64 (checkR { neg := n, n := a, d := b })] }))
      else
        bif szB c && szB d then
          bif checkR { neg := m, n := c, d := d } != 0 then
            bif checkR { neg := m, n := c, d := d } != 0 then
              some
                (Ending.returned
                  (Value.tuple
                    {
                      toList :=
                        [Value.agg
                            { toList := [Value.bool false, Value.string (bs []), Value.string (bs [])] },
                          Value.int IntKind.i64 (checkR { neg := m, n := c, d := d })] }))
            else
              some
                (Ending.returned
                  (Value.tuple
                    {
                      toList :=
                        [Value.agg
                            { toList := [Value.bool false, Value.string (bs []), Value.string (bs [])] },
                          Value.int IntKind.i64 (checkR { neg := m, n := c, d := d })] }))
          else
            bif szB b && szB d then
              bif (timesO b d).isSome then
                bif szB a && szB d then
                  bif (timesO a d).isSome then
                    bif szB c && szB b then
                      bif (timesO c b).isSome then
                        bif szB ((timesO a d).getD (bs [])) && szB ((timesO c b).getD (bs [])) then
                          bif
                              (saddO { neg := n, n := (timesO a d).getD (bs []) }
                                  { neg := m, n := (timesO c b).getD (bs []) }).isSome then
                            bif
                                szB
                                    ((saddO { neg := n, n := (timesO a d).getD (bs []) }
                                            { neg := m, n := (timesO c b).getD (bs []) }).getD
                                        { neg := false, n := (bs []) }).n &&
                                  szB ((timesO b d).getD (bs [])) then
                              bif
                                  (overO
                                      {
                                        neg :=
                                          ((saddO { neg := n, n := (timesO a d).getD (bs []) }
                                                  { neg := m, n := (timesO c b).getD (bs []) }).getD
                                              { neg := false, n := (bs []) }).neg,
                                        n :=
                                          ((saddO { neg := n, n := (timesO a d).getD (bs []) }
                                                  { neg := m, n := (timesO c b).getD (bs []) }).getD
                                              { neg := false, n := (bs []) }).n }
                                      ((timesO b d).getD (bs []))).isSome then
                                some
                                  (Ending.returned
                                    (Value.tuple
                                      {
                                        toList :=
                                          [Value.agg
                                              {
                                                toList :=
                                                  [Value.bool
                                                      ((overO
                                                              {
                                                                neg :=
                                                                  ((saddO
                                                                          { neg := n,
                                                                            n := (timesO a d).getD (bs []) }
                                                                          { neg := m,
                                                                            n := (timesO c b).getD (bs []) }).getD
                                                                      { neg := false, n := (bs []) }).neg,
                                                                n :=
                                                                  ((saddO
                                                                          { neg := n,
                                                                            n := (timesO a d).getD (bs []) }
                                                                          { neg := m,
                                                                            n := (timesO c b).getD (bs []) }).getD
                                                                      { neg := false, n := (bs []) }).n }
                                                              ((timesO b d).getD (bs []))).getD
                                                          zR).neg,
                                                    Value.string
                                                      ((overO
                                                              {
                                                                neg :=
                                                                  ((saddO
                                                                          { neg := n,
                                                                            n := (timesO a d).getD (bs []) }
                                                                          { neg := m,
                                                                            n := (timesO c b).getD (bs []) }).getD
                                                                      { neg := false, n := (bs []) }).neg,
                                                                n :=
                                                                  ((saddO
                                                                          { neg := n,
                                                                            n := (timesO a d).getD (bs []) }
                                                                          { neg := m,
                                                                            n := (timesO c b).getD (bs []) }).getD
                                                                      { neg := false, n := (bs []) }).n }
                                                              ((timesO b d).getD (bs []))).getD
                                                          zR).n,
                                                    Value.string
                                                      ((overO
                                                              {
                                                                neg :=
                                                                  ((saddO
                                                                          { neg := n,
                                                                            n := (timesO a d).getD (bs []) }
                                                                          { neg := m,
                                                                            n := (timesO c b).getD (bs []) }).getD
                                                                      { neg := false, n := (bs []) }).neg,
                                                                n :=
                                                                  ((saddO
                                                                          { neg := n,
                                                                            n := (timesO a d).getD (bs []) }
                                                                          { neg := m,
                                                                            n := (timesO c b).getD (bs []) }).getD
                                                                      { neg := false, n := (bs []) }).n }
                                                              ((timesO b d).getD (bs []))).getD
                                                          zR).d] },
                                            Value.int IntKind.i64 0] }))
                              else
                                some
                                  (Ending.returned
                                    (Value.tuple
                                      {
                                        toList :=
                                          [Value.agg
                                              {
                                                toList :=
                                                  [Value.bool false, Value.string (bs []),
                                                    Value.string (bs [])] },
                                            Value.int IntKind.i64 2] }))
                            else none
                          else
                            some
                              (Ending.returned
                                (Value.tuple
                                  {
                                    toList :=
                                      [Value.agg
                                          {
                                            toList :=
                                              [Value.bool false, Value.string (bs []),
                                                Value.string (bs [])] },
                                        Value.int IntKind.i64 2] }))
                        else none
                      else
                        some
                          (Ending.returned
                            (Value.tuple
                              {
                                toList :=
                                  [Value.agg
                                      {
                                        toList :=
                                          [Value.bool false, Value.string (bs []), Value.string (bs [])] },
                                    Value.int IntKind.i64 2] }))
                    else none
                  else
                    some
                      (Ending.returned
                        (Value.tuple
                          {
                            toList :=
                              [Value.agg
                                  {
                                    toList :=
                                      [Value.bool false, Value.string (bs []), Value.string (bs [])] },
                                Value.int IntKind.i64 2] }))
                else none
              else
                some
                  (Ending.returned
                    (Value.tuple
                      {
                        toList :=
                          [Value.agg
                              { toList := [Value.bool false, Value.string (bs []), Value.string (bs [])] },
                            Value.int IntKind.i64 2] }))
            else none
        else none
    else none := by kernel_rfl

set_option maxRecDepth 100000 in
theorem T_sub (n m : Bool) (a b c d : ByteArray) : sxEnd Try.prog Rd.no ratCon.p 40 26 [.agg #[.bool n, .string a, .string b], .agg #[.bool m, .string c, .string d]] =
    bif szB a && szB b then
      bif checkR { neg := n, n := a, d := b } != 0 then
        bif checkR { neg := n, n := a, d := b } != 0 then
          some
            (Ending.returned
              (Value.tuple
                {
                  toList :=
                    [Value.agg { toList := [Value.bool false, Value.string (bs []), Value.string (bs [])] },
                      Value.int IntKind.i64 (checkR { neg := n, n := a, d := b })] }))
        else
          some
            (Ending.returned
              (Value.tuple
                {
                  toList :=
                    [Value.agg { toList := [Value.bool false, Value.string (bs []), Value.string (bs [])] },
                      Value.int IntKind.i64 (checkR { neg := n, n := a, d := b })] }))
      else
        bif szB c && szB d then
          bif checkR { neg := m, n := c, d := d } != 0 then
            bif checkR { neg := m, n := c, d := d } != 0 then
              some
                (Ending.returned
                  (Value.tuple
                    {
                      toList :=
                        [Value.agg
                            { toList := [Value.bool false, Value.string (bs []), Value.string (bs [])] },
                          Value.int IntKind.i64 (checkR { neg := m, n := c, d := d })] }))
            else
              some
                (Ending.returned
                  (Value.tuple
                    {
                      toList :=
                        [Value.agg
                            { toList := [Value.bool false, Value.string (bs []), Value.string (bs [])] },
                          Value.int IntKind.i64 (checkR { neg := m, n := c, d := d })] }))
          else
            bif !m then
              bif szB b && szB d then
                bif (timesO b d).isSome then
                  bif szB a && szB d then
                    bif (timesO a d).isSome then
                      bif szB c && szB b then
                        bif (timesO c b).isSome then
                          bif szB ((timesO a d).getD (bs [])) && szB ((timesO c b).getD (bs [])) then
                            bif
                                (saddO { neg := n, n := (timesO a d).getD (bs []) }
                                    { neg := !c.toList == (bs []).toList,
                                      n := (timesO c b).getD (bs []) }).isSome then
                              bif
                                  szB
                                      ((saddO { neg := n, n := (timesO a d).getD (bs []) }
                                              { neg := !c.toList == (bs []).toList,
                                                n := (timesO c b).getD (bs []) }).getD
                                          { neg := false, n := (bs []) }).n &&
                                    szB ((timesO b d).getD (bs [])) then
                                bif
                                    (overO
                                        {
                                          neg :=
                                            ((saddO { neg := n, n := (timesO a d).getD (bs []) }
                                                    { neg := !c.toList == (bs []).toList,
                                                      n := (timesO c b).getD (bs []) }).getD
                                                { neg := false, n := (bs []) }).neg,
                                          n :=
                                            ((saddO { neg := n, n := (timesO a d).getD (bs []) }
                                                    { neg := !c.toList == (bs []).toList,
                                                      n := (timesO c b).getD (bs []) }).getD
                                                { neg := false, n := (bs []) }).n }
                                        ((timesO b d).getD (bs []))).isSome then
                                  some
                                    (Ending.returned
                                      (Value.tuple
                                        {
                                          toList :=
                                            [Value.agg
                                                {
                                                  toList :=
                                                    [Value.bool
                                                        ((overO
                                                                {
                                                                  neg :=
                                                                    ((saddO
                                                                            { neg := n,
                                                                              n := (timesO a d).getD (bs []) }
                                                                            { neg := !c.toList == (bs []).toList,
                                                                              n := (timesO c b).getD (bs []) }).getD
                                                                        { neg := false, n := (bs []) }).neg,
                                                                  n :=
                                                                    ((saddO
                                                                            { neg := n,
                                                                              n := (timesO a d).getD (bs []) }
                                                                            { neg := !c.toList == (bs []).toList,
                                                                              n := (timesO c b).getD (bs []) }).getD
                                                                        { neg := false, n := (bs []) }).n }
                                                                ((timesO b d).getD (bs []))).getD
                                                            zR).neg,
                                                      Value.string
                                                        ((overO
                                                                {
                                                                  neg :=
                                                                    ((saddO
                                                                            { neg := n,
                                                                              n := (timesO a d).getD (bs []) }
                                                                            {
                                                                              neg :=
                                                                                bif true then
                                                                                  !c.toList == (bs []).toList
                                                                                else false,
                                                                              n := (timesO c b).getD (bs []) }).getD
                                                                        { neg := false, n := (bs []) }).neg,
                                                                  n :=
                                                                    ((saddO
                                                                            { neg := n,
                                                                              n := (timesO a d).getD (bs []) }
                                                                            {
                                                                              neg :=
                                                                                bif true then
                                                                                  !c.toList == (bs []).toList
                                                                                else false,
                                                                              n := (timesO c b).getD (bs []) }).getD
                                                                        { neg := false, n := (bs []) }).n }
                                                                ((timesO b d).getD (bs []))).getD
                                                            zR).n,
                                                      Value.string
                                                        ((overO
                                                                {
                                                                  neg :=
                                                                    ((saddO
                                                                            { neg := n,
                                                                              n := (timesO a d).getD (bs []) }
                                                                            {
                                                                              neg :=
                                                                                bif true then
                                                                                  !c.toList == (bs []).toList
                                                                                else false,
                                                                              n := (timesO c b).getD (bs []) }).getD
                                                                        { neg := false, n := (bs []) }).neg,
                                                                  n :=
                                                                    ((saddO
                                                                            { neg := n,
                                                                              n := (timesO a d).getD (bs []) }
                                                                            {
                                                                              neg :=
                                                                                bif true then
                                                                                  !c.toList == (bs []).toList
                                                                                else false,
                                                                              n := (timesO c b).getD (bs []) }).getD
                                                                        { neg := false, n := (bs []) }).n }
                                                                ((timesO b d).getD (bs []))).getD
                                                            zR).d] },
                                              Value.int IntKind.i64 0] }))
                                else
                                  some
                                    (Ending.returned
                                      (Value.tuple
                                        {
                                          toList :=
                                            [Value.agg
                                                {
                                                  toList :=
                                                    [Value.bool false, Value.string (bs []),
                                                      Value.string (bs [])] },
                                              Value.int IntKind.i64 2] }))
                              else none
                            else
                              some
                                (Ending.returned
                                  (Value.tuple
                                    {
                                      toList :=
                                        [Value.agg
                                            {
                                              toList :=
                                                [Value.bool false, Value.string (bs []),
                                                  Value.string (bs [])] },
                                          Value.int IntKind.i64 2] }))
                          else none
                        else
                          some
                            (Ending.returned
                              (Value.tuple
                                {
                                  toList :=
                                    [Value.agg
                                        {
                                          toList :=
                                            [Value.bool false, Value.string (bs []),
                                              Value.string (bs [])] },
                                      Value.int IntKind.i64 2] }))
                      else none
                    else
                      some
                        (Ending.returned
                          (Value.tuple
                            {
                              toList :=
                                [Value.agg
                                    {
                                      toList :=
                                        [Value.bool false, Value.string (bs []), Value.string (bs [])] },
                                  Value.int IntKind.i64 2] }))
                  else none
                else
                  some
                    (Ending.returned
                      (Value.tuple
                        {
                          toList :=
                            [Value.agg
                                {
                                  toList :=
                                    [Value.bool false, Value.string (bs []), Value.string (bs [])] },
                              Value.int IntKind.i64 2] }))
              else none
            else
              bif szB b && szB d then
                bif (timesO b d).isSome then
                  bif szB a && szB d then
                    bif (timesO a d).isSome then
                      bif szB c && szB b then
                        bif (timesO c b).isSome then
                          bif szB ((timesO a d).getD (bs [])) && szB ((timesO c b).getD (bs [])) then
                            bif
                                (saddO { neg := n, n := (timesO a d).getD (bs []) }
                                    { neg := false, n := (timesO c b).getD (bs []) }).isSome then
                              bif
                                  szB
                                      ((saddO { neg := n, n := (timesO a d).getD (bs []) }
                                              { neg := false, n := (timesO c b).getD (bs []) }).getD
                                          { neg := false, n := (bs []) }).n &&
                                    szB ((timesO b d).getD (bs [])) then
                                bif
                                    (overO
                                        {
                                          neg :=
                                            ((saddO { neg := n, n := (timesO a d).getD (bs []) }
                                                    { neg := false, n := (timesO c b).getD (bs []) }).getD
                                                { neg := false, n := (bs []) }).neg,
                                          n :=
                                            ((saddO { neg := n, n := (timesO a d).getD (bs []) }
                                                    { neg := false, n := (timesO c b).getD (bs []) }).getD
                                                { neg := false, n := (bs []) }).n }
                                        ((timesO b d).getD (bs []))).isSome then
                                  some
                                    (Ending.returned
                                      (Value.tuple
                                        {
                                          toList :=
                                            [Value.agg
                                                {
                                                  toList :=
                                                    [Value.bool
                                                        ((overO
                                                                {
                                                                  neg :=
                                                                    ((saddO
                                                                            { neg := n,
                                                                              n := (timesO a d).getD (bs []) }
                                                                            { neg := false,
                                                                              n := (timesO c b).getD (bs []) }).getD
                                                                        { neg := false, n := (bs []) }).neg,
                                                                  n :=
                                                                    ((saddO
                                                                            { neg := n,
                                                                              n := (timesO a d).getD (bs []) }
                                                                            { neg := false,
                                                                              n := (timesO c b).getD (bs []) }).getD
                                                                        { neg := false, n := (bs []) }).n }
                                                                ((timesO b d).getD (bs []))).getD
                                                            zR).neg,
                                                      Value.string
                                                        ((overO
                                                                {
                                                                  neg :=
                                                                    ((saddO
                                                                            { neg := n,
                                                                              n := (timesO a d).getD (bs []) }
                                                                            { neg := false,
                                                                              n := (timesO c b).getD (bs []) }).getD
                                                                        { neg := false, n := (bs []) }).neg,
                                                                  n :=
                                                                    ((saddO
                                                                            { neg := n,
                                                                              n := (timesO a d).getD (bs []) }
                                                                            { neg := false,
                                                                              n := (timesO c b).getD (bs []) }).getD
                                                                        { neg := false, n := (bs []) }).n }
                                                                ((timesO b d).getD (bs []))).getD
                                                            zR).n,
                                                      Value.string
                                                        ((overO
                                                                {
                                                                  neg :=
                                                                    ((saddO
                                                                            { neg := n,
                                                                              n := (timesO a d).getD (bs []) }
                                                                            { neg := false,
                                                                              n := (timesO c b).getD (bs []) }).getD
                                                                        { neg := false, n := (bs []) }).neg,
                                                                  n :=
                                                                    ((saddO
                                                                            { neg := n,
                                                                              n := (timesO a d).getD (bs []) }
                                                                            { neg := false,
                                                                              n := (timesO c b).getD (bs []) }).getD
                                                                        { neg := false, n := (bs []) }).n }
                                                                ((timesO b d).getD (bs []))).getD
                                                            zR).d] },
                                              Value.int IntKind.i64 0] }))
                                else
                                  some
                                    (Ending.returned
                                      (Value.tuple
                                        {
                                          toList :=
                                            [Value.agg
                                                {
                                                  toList :=
                                                    [Value.bool false, Value.string (bs []),
                                                      Value.string (bs [])] },
                                              Value.int IntKind.i64 2] }))
                              else none
                            else
                              some
                                (Ending.returned
                                  (Value.tuple
                                    {
                                      toList :=
                                        [Value.agg
                                            {
                                              toList :=
                                                [Value.bool false, Value.string (bs []),
                                                  Value.string (bs [])] },
                                          Value.int IntKind.i64 2] }))
                          else none
                        else
                          some
                            (Ending.returned
                              (Value.tuple
                                {
                                  toList :=
                                    [Value.agg
                                        {
                                          toList :=
                                            [Value.bool false, Value.string (bs []),
                                              Value.string (bs [])] },
                                      Value.int IntKind.i64 2] }))
                      else none
                    else
                      some
                        (Ending.returned
                          (Value.tuple
                            {
                              toList :=
                                [Value.agg
                                    {
                                      toList :=
                                        [Value.bool false, Value.string (bs []), Value.string (bs [])] },
                                  Value.int IntKind.i64 2] }))
                  else none
                else
                  some
                    (Ending.returned
                      (Value.tuple
                        {
                          toList :=
                            [Value.agg
                                {
                                  toList :=
                                    [Value.bool false, Value.string (bs []), Value.string (bs [])] },
                              Value.int IntKind.i64 2] }))
              else none
        else none
    else none := by kernel_rfl

set_option maxRecDepth 100000 in
theorem T_mul (n m : Bool) (a b c d : ByteArray) : sxEnd Try.prog Rd.no ratCon.p 40 28 [.agg #[.bool n, .string a, .string b], .agg #[.bool m, .string c, .string d]] =
    bif szB a && szB b then
      bif checkR { neg := n, n := a, d := b } != 0 then
        bif checkR { neg := n, n := a, d := b } != 0 then
          some
            (Ending.returned
              (Value.tuple
                {
                  toList :=
                    [Value.agg { toList := [Value.bool false, Value.string (bs []), Value.string (bs [])] },
                      Value.int IntKind.i64 (checkR { neg := n, n := a, d := b })] }))
        else
          some
            (Ending.returned
              (Value.tuple
                {
                  toList :=
                    [Value.agg { toList := [Value.bool false, Value.string (bs []), Value.string (bs [])] },
                      Value.int IntKind.i64 (checkR { neg := n, n := a, d := b })] }))
      else
        bif szB c && szB d then
          bif checkR { neg := m, n := c, d := d } != 0 then
            bif checkR { neg := m, n := c, d := d } != 0 then
              some
                (Ending.returned
                  (Value.tuple
                    {
                      toList :=
                        [Value.agg
                            { toList := [Value.bool false, Value.string (bs []), Value.string (bs [])] },
                          Value.int IntKind.i64 (checkR { neg := m, n := c, d := d })] }))
            else
              some
                (Ending.returned
                  (Value.tuple
                    {
                      toList :=
                        [Value.agg
                            { toList := [Value.bool false, Value.string (bs []), Value.string (bs [])] },
                          Value.int IntKind.i64 (checkR { neg := m, n := c, d := d })] }))
          else
            bif szB a && szB c then
              bif (timesO a c).isSome then
                bif szB b && szB d then
                  bif (timesO b d).isSome then
                    bif szB ((timesO a c).getD (bs [])) && szB ((timesO b d).getD (bs [])) then
                      bif
                          (overO { neg := !n == m, n := (timesO a c).getD (bs []) }
                              ((timesO b d).getD (bs []))).isSome then
                        some
                          (Ending.returned
                            (Value.tuple
                              {
                                toList :=
                                  [Value.agg
                                      {
                                        toList :=
                                          [Value.bool
                                              ((overO { neg := !n == m, n := (timesO a c).getD (bs []) }
                                                      ((timesO b d).getD (bs []))).getD
                                                  zR).neg,
                                            Value.string
                                              ((overO { neg := !n == m, n := (timesO a c).getD (bs []) }
                                                      ((timesO b d).getD (bs []))).getD
                                                  zR).n,
                                            Value.string
                                              ((overO { neg := !n == m, n := (timesO a c).getD (bs []) }
                                                      ((timesO b d).getD (bs []))).getD
                                                  zR).d] },
                                    Value.int IntKind.i64 0] }))
                      else
                        some
                          (Ending.returned
                            (Value.tuple
                              {
                                toList :=
                                  [Value.agg
                                      {
                                        toList :=
                                          [Value.bool false, Value.string (bs []), Value.string (bs [])] },
                                    Value.int IntKind.i64 2] }))
                    else none
                  else
                    some
                      (Ending.returned
                        (Value.tuple
                          {
                            toList :=
                              [Value.agg
                                  {
                                    toList :=
                                      [Value.bool false, Value.string (bs []), Value.string (bs [])] },
                                Value.int IntKind.i64 2] }))
                else none
              else
                some
                  (Ending.returned
                    (Value.tuple
                      {
                        toList :=
                          [Value.agg
                              { toList := [Value.bool false, Value.string (bs []), Value.string (bs [])] },
                            Value.int IntKind.i64 2] }))
            else none
        else none
    else none := by kernel_rfl

set_option maxRecDepth 100000 in
theorem T_div (n m : Bool) (a b c d : ByteArray) : sxEnd Try.prog Rd.no ratCon.p 40 30 [.agg #[.bool n, .string a, .string b], .agg #[.bool m, .string c, .string d]] =
    bif szB a && szB b then
      bif checkR { neg := n, n := a, d := b } != 0 then
        bif checkR { neg := n, n := a, d := b } != 0 then
          some
            (Ending.returned
              (Value.tuple
                {
                  toList :=
                    [Value.agg { toList := [Value.bool false, Value.string (bs []), Value.string (bs [])] },
                      Value.int IntKind.i64 (checkR { neg := n, n := a, d := b })] }))
        else
          some
            (Ending.returned
              (Value.tuple
                {
                  toList :=
                    [Value.agg { toList := [Value.bool false, Value.string (bs []), Value.string (bs [])] },
                      Value.int IntKind.i64 (checkR { neg := n, n := a, d := b })] }))
      else
        bif szB c && szB d then
          bif checkR { neg := m, n := c, d := d } != 0 then
            bif checkR { neg := m, n := c, d := d } != 0 then
              some
                (Ending.returned
                  (Value.tuple
                    {
                      toList :=
                        [Value.agg
                            { toList := [Value.bool false, Value.string (bs []), Value.string (bs [])] },
                          Value.int IntKind.i64 (checkR { neg := m, n := c, d := d })] }))
            else
              some
                (Ending.returned
                  (Value.tuple
                    {
                      toList :=
                        [Value.agg
                            { toList := [Value.bool false, Value.string (bs []), Value.string (bs [])] },
                          Value.int IntKind.i64 (checkR { neg := m, n := c, d := d })] }))
          else
            bif c.toList == (bs []).toList then
              some
                (Ending.returned
                  (Value.tuple
                    {
                      toList :=
                        [Value.agg
                            { toList := [Value.bool false, Value.string (bs []), Value.string (bs [])] },
                          Value.int IntKind.i64 71] }))
            else
              bif szB a && szB d then
                bif (timesO a d).isSome then
                  bif szB b && szB c then
                    bif (timesO b c).isSome then
                      bif szB ((timesO a d).getD (bs [])) && szB ((timesO b c).getD (bs [])) then
                        bif
                            (overO { neg := !n == m, n := (timesO a d).getD (bs []) }
                                ((timesO b c).getD (bs []))).isSome then
                          some
                            (Ending.returned
                              (Value.tuple
                                {
                                  toList :=
                                    [Value.agg
                                        {
                                          toList :=
                                            [Value.bool
                                                ((overO { neg := !n == m, n := (timesO a d).getD (bs []) }
                                                        ((timesO b c).getD (bs []))).getD
                                                    zR).neg,
                                              Value.string
                                                ((overO { neg := !n == m, n := (timesO a d).getD (bs []) }
                                                        ((timesO b c).getD (bs []))).getD
                                                    zR).n,
                                              Value.string
                                                ((overO { neg := !n == m, n := (timesO a d).getD (bs []) }
                                                        ((timesO b c).getD (bs []))).getD
                                                    zR).d] },
                                      Value.int IntKind.i64 0] }))
                        else
                          some
                            (Ending.returned
                              (Value.tuple
                                {
                                  toList :=
                                    [Value.agg
                                        {
                                          toList :=
                                            [Value.bool false, Value.string (bs []),
                                              Value.string (bs [])] },
                                      Value.int IntKind.i64 2] }))
                      else none
                    else
                      some
                        (Ending.returned
                          (Value.tuple
                            {
                              toList :=
                                [Value.agg
                                    {
                                      toList :=
                                        [Value.bool false, Value.string (bs []), Value.string (bs [])] },
                                  Value.int IntKind.i64 2] }))
                  else none
                else
                  some
                    (Ending.returned
                      (Value.tuple
                        {
                          toList :=
                            [Value.agg
                                {
                                  toList :=
                                    [Value.bool false, Value.string (bs []), Value.string (bs [])] },
                              Value.int IntKind.i64 2] }))
              else none
        else none
    else none := by kernel_rfl

set_option maxRecDepth 100000 in
theorem T_cmp (n m : Bool) (a b c d : ByteArray) : sxEnd Try.prog Rd.no ratCon.p 40 32 [.agg #[.bool n, .string a, .string b], .agg #[.bool m, .string c, .string d]] =
    bif szB a && szB b then
      bif checkR { neg := n, n := a, d := b } != 0 then
        some
          (Ending.returned
            (Value.tuple
              { toList := [Value.int IntKind.i64 0, Value.int IntKind.i64 (checkR { neg := n, n := a, d := b })] }))
      else
        bif szB c && szB d then
          bif checkR { neg := m, n := c, d := d } != 0 then
            some
              (Ending.returned
                (Value.tuple
                  { toList := [Value.int IntKind.i64 0, Value.int IntKind.i64 (checkR { neg := m, n := c, d := d })] }))
          else
            bif szB a && szB d then
              bif (timesO a d).isSome then
                bif szB c && szB b then
                  bif (timesO c b).isSome then
                    bif n == m && ((timesO a d).getD (bs []) == (timesO c b).getD (bs []) && true) then
                      some (Ending.returned (Value.tuple { toList := [Value.int IntKind.i64 0, Value.int IntKind.i64 0] }))
                    else
                      bif !n == m then
                        bif n then
                          some
                            (Ending.returned
                              (Value.tuple { toList := [Value.int IntKind.i64 (-1), Value.int IntKind.i64 0] }))
                        else
                          bif n then
                            bif szB ((timesO c b).getD (bs [])) && szB ((timesO a d).getD (bs [])) then
                              bif
                                  decide
                                    ((cmpF ((timesO c b).getD (bs [])) ((timesO a d).getD (bs []))).fst <
                                      0) then
                                some
                                  (Ending.returned
                                    (Value.tuple { toList := [Value.int IntKind.i64 (-1), Value.int IntKind.i64 0] }))
                              else
                                bif !n then
                                  bif !m then
                                    bif
                                        szB ((timesO a d).getD (bs [])) &&
                                          szB ((timesO c b).getD (bs [])) then
                                      bif
                                          decide
                                            ((cmpF ((timesO a d).getD (bs []))
                                                  ((timesO c b).getD (bs []))).fst <
                                              0) then
                                        some
                                          (Ending.returned
                                            (Value.tuple
                                              { toList := [Value.int IntKind.i64 (-1), Value.int IntKind.i64 0] }))
                                      else
                                        some
                                          (Ending.returned
                                            (Value.tuple { toList := [Value.int IntKind.i64 1, Value.int IntKind.i64 0] }))
                                    else none
                                  else
                                    some
                                      (Ending.returned
                                        (Value.tuple { toList := [Value.int IntKind.i64 1, Value.int IntKind.i64 0] }))
                                else
                                  some
                                    (Ending.returned
                                      (Value.tuple { toList := [Value.int IntKind.i64 1, Value.int IntKind.i64 0] }))
                            else none
                          else
                            bif !n then
                              bif !m then
                                bif szB ((timesO a d).getD (bs [])) && szB ((timesO c b).getD (bs [])) then
                                  bif
                                      decide
                                        ((cmpF ((timesO a d).getD (bs []))
                                              ((timesO c b).getD (bs []))).fst <
                                          0) then
                                    some
                                      (Ending.returned
                                        (Value.tuple { toList := [Value.int IntKind.i64 (-1), Value.int IntKind.i64 0] }))
                                  else
                                    some
                                      (Ending.returned
                                        (Value.tuple { toList := [Value.int IntKind.i64 1, Value.int IntKind.i64 0] }))
                                else none
                              else
                                some
                                  (Ending.returned
                                    (Value.tuple { toList := [Value.int IntKind.i64 1, Value.int IntKind.i64 0] }))
                            else
                              some
                                (Ending.returned
                                  (Value.tuple { toList := [Value.int IntKind.i64 1, Value.int IntKind.i64 0] }))
                      else
                        bif n then
                          bif szB ((timesO c b).getD (bs [])) && szB ((timesO a d).getD (bs [])) then
                            bif
                                decide
                                  ((cmpF ((timesO c b).getD (bs [])) ((timesO a d).getD (bs []))).fst <
                                    0) then
                              some
                                (Ending.returned
                                  (Value.tuple { toList := [Value.int IntKind.i64 (-1), Value.int IntKind.i64 0] }))
                            else
                              bif !n then
                                bif !m then
                                  bif
                                      szB ((timesO a d).getD (bs [])) &&
                                        szB ((timesO c b).getD (bs [])) then
                                    bif
                                        decide
                                          ((cmpF ((timesO a d).getD (bs []))
                                                ((timesO c b).getD (bs []))).fst <
                                            0) then
                                      some
                                        (Ending.returned
                                          (Value.tuple { toList := [Value.int IntKind.i64 (-1), Value.int IntKind.i64 0] }))
                                    else
                                      some
                                        (Ending.returned
                                          (Value.tuple { toList := [Value.int IntKind.i64 1, Value.int IntKind.i64 0] }))
                                  else none
                                else
                                  some
                                    (Ending.returned
                                      (Value.tuple { toList := [Value.int IntKind.i64 1, Value.int IntKind.i64 0] }))
                              else
                                some
                                  (Ending.returned
                                    (Value.tuple { toList := [Value.int IntKind.i64 1, Value.int IntKind.i64 0] }))
                          else none
                        else
                          bif !n then
                            bif !m then
                              bif szB ((timesO a d).getD (bs [])) && szB ((timesO c b).getD (bs [])) then
                                bif
                                    decide
                                      ((cmpF ((timesO a d).getD (bs [])) ((timesO c b).getD (bs []))).fst <
                                        0) then
                                  some
                                    (Ending.returned
                                      (Value.tuple { toList := [Value.int IntKind.i64 (-1), Value.int IntKind.i64 0] }))
                                else
                                  some
                                    (Ending.returned
                                      (Value.tuple { toList := [Value.int IntKind.i64 1, Value.int IntKind.i64 0] }))
                              else none
                            else
                              some
                                (Ending.returned
                                  (Value.tuple { toList := [Value.int IntKind.i64 1, Value.int IntKind.i64 0] }))
                          else
                            some
                              (Ending.returned
                                (Value.tuple { toList := [Value.int IntKind.i64 1, Value.int IntKind.i64 0] }))
                  else some (Ending.returned (Value.tuple { toList := [Value.int IntKind.i64 0, Value.int IntKind.i64 2] }))
                else none
              else some (Ending.returned (Value.tuple { toList := [Value.int IntKind.i64 0, Value.int IntKind.i64 2] }))
            else none
        else none
    else none := by kernel_rfl

set_option maxRecDepth 100000 in
theorem T_floor (n : Bool) (a b : ByteArray) : sxEnd Try.prog Rd.no ratCon.p 40 16 [.agg #[.bool n, .string a, .string b]] =
    bif szB a && szB b then
      bif checkR { neg := n, n := a, d := b } != 0 then
        some
          (Ending.returned
            (Value.tuple
              { toList := [Value.int IntKind.i64 0, Value.int IntKind.i64 (checkR { neg := n, n := a, d := b })] }))
      else
        bif szB a && szB b then
          bif szB (divF a b).fst then
            bif !(intF (divF a b).fst).snd then
              some (Ending.returned (Value.tuple { toList := [Value.int IntKind.i64 0, Value.int IntKind.i64 2] }))
            else
              bif decide ((intF (divF a b).fst).fst > 4611686018427387904) then
                some (Ending.returned (Value.tuple { toList := [Value.int IntKind.i64 0, Value.int IntKind.i64 2] }))
              else
                bif !n then
                  some
                    (Ending.returned
                      (Value.tuple
                        { toList := [Value.int IntKind.i64 (intF (divF a b).fst).fst, Value.int IntKind.i64 0] }))
                else
                  bif !(divF a b).snd.fst.toList == (bs []).toList then
                    bif decide (IntKind.i64.wrap ((intF (divF a b).fst).fst + 1) > 4611686018427387904) then
                      some (Ending.returned (Value.tuple { toList := [Value.int IntKind.i64 0, Value.int IntKind.i64 2] }))
                    else
                      some
                        (Ending.returned
                          (Value.tuple
                            {
                              toList :=
                                [Value.int IntKind.i64
                                    (IntKind.i64.wrap (0 - IntKind.i64.wrap ((intF (divF a b).fst).fst + 1))),
                                  Value.int IntKind.i64 0] }))
                  else
                    bif decide ((intF (divF a b).fst).fst > 4611686018427387904) then
                      some (Ending.returned (Value.tuple { toList := [Value.int IntKind.i64 0, Value.int IntKind.i64 2] }))
                    else
                      some
                        (Ending.returned
                          (Value.tuple
                            {
                              toList :=
                                [Value.int IntKind.i64 (IntKind.i64.wrap (0 - (intF (divF a b).fst).fst)),
                                  Value.int IntKind.i64 0] }))
          else none
        else none
    else none := by kernel_rfl

end Go.Proofs.Ytmcejefeloljiaa

/-
  Package ratios: what Add, Sub, Mul, Div, Compare, New, Floor and Ceil come to.
-/
namespace Go.Proofs.Ytmcejefeloljiaa
set_option linter.unusedSimpArgs false
set_option linter.unusedVariables false
open Go.RowKit Nm Go.SX

def resV (p : Rt × Int) : Value := .tuple #[rtV p.1, .int .i64 p.2]
def intV (p : Int × Int) : Value := .tuple #[.int .i64 p.1, .int .i64 p.2]
def resO (o : Option Rt) : Rt × Int := match o with | some r => (r, 0) | none => (zR, 2)
def both (a b : Rt) (p : Rt × Int) : Rt × Int := if checkR a = 0 then if checkR b = 0 then p else (zR, checkR b) else (zR, checkR a)
def addO (a b : Rt) : Option Rt := (timesO a.d b.d).bind fun d => (timesO a.n b.d).bind fun x => (timesO b.n a.d).bind fun y => (saddO ⟨a.neg, x⟩ ⟨b.neg, y⟩).bind fun s => overO s d
def mulO (a b : Rt) : Option Rt := (timesO a.n b.n).bind fun n => (timesO a.d b.d).bind fun d => overO ⟨a.neg != b.neg, n⟩ d
def negR (b : Rt) : Rt := ⟨!b.neg && !isE b.n, b.n, b.d⟩
def addR (a b : Rt) : Rt × Int := both a b (resO (addO a b))
def subR (a b : Rt) : Rt × Int := both a b (resO (addO a (negR b)))
def mulR (a b : Rt) : Rt × Int := both a b (resO (mulO a b))
def divR (a b : Rt) : Rt × Int := both a b (if isE b.n then (zR, 71) else resO (mulO a ⟨b.neg, b.d, b.n⟩))
def ordS (n m : Bool) (x y : ByteArray) : Int :=
  if n = m ∧ x = y then 0 else if (n ≠ m ∧ n = true) ∨ (n = true ∧ lessB y x = true) ∨ (n = false ∧ m = false ∧ lessB x y = true) then -1 else 1
def cmpR (a b : Rt) : Int × Int :=
  if checkR a = 0 then if checkR b = 0 then
    match timesO a.n b.d, timesO b.n a.d with
    | some x, some y => (ordS a.neg b.neg x y, 0)
    | _, _ => (0, 2)
  else (0, checkR b) else (0, checkR a)
def szR (a : Rt) : Bool := szB a.n && szB a.d

theorem beqB (x y : ByteArray) : (x == y) = decide (x = y) := by
  obtain ⟨a⟩ := x
  obtain ⟨b⟩ := y
  show (a == b) = _
  by_cases h : a = b
  · subst h; simp
  · have : ¬ (ByteArray.mk a = ByteArray.mk b) := fun e => h (ByteArray.mk.inj e)
    rw [decide_eq_false this, beq_eq_false_iff_ne]
    exact h
theorem sz_times {a b x : ByteArray} (h : timesO a b = some x) : szB x = true := by
  obtain ⟨h1, _⟩ := mustO_some h
  rw [← h1]
  exact sz256 (mulF_size a b)
theorem sz_plus {a b x : ByteArray} (h : plusO a b = some x) : szB x = true := by
  obtain ⟨h1, _⟩ := mustO_some h
  rw [← h1]
  exact sz256 (addF_size a b)
theorem sz_sub {a b x : ByteArray} (h : mustO (subF a b) = some x) : szB x = true := by
  obtain ⟨h1, _⟩ := mustO_some h
  rw [← h1]
  exact sz256 (subF_size a b)
theorem sz_sadd {a b s : Sg} (h : saddO a b = some s) : szB s.n = true := by
  unfold saddO at h
  split at h
  · simp only [Option.map_eq_some_iff] at h
    obtain ⟨x, h1, rfl⟩ := h
    exact sz_plus h1
  · split at h
    · simp only [Option.map_eq_some_iff] at h
      obtain ⟨x, h1, rfl⟩ := h
      exact sz_sub h1
    · simp only [Option.map_eq_some_iff] at h
      obtain ⟨x, h1, rfl⟩ := h
      exact sz_sub h1

set_option maxHeartbeats 2000000 in
theorem add_end (n m : Bool) (a b c d : ByteArray) (ha : szB a = true) (hb : szB b = true) (hc : szB c = true) (hd : szB d = true) :
    sxEnd Try.prog Rd.no ratCon.p 40 24 [.agg #[.bool n, .string a, .string b], .agg #[.bool m, .string c, .string d]] = some (.returned (resV (addR ⟨n, a, b⟩ ⟨m, c, d⟩))) := by
  rw [T_add]
  simp only [ha, hb, hc, hd, Bool.and_self, cond_true]
  unfold addR both
  by_cases h1 : checkR ⟨n, a, b⟩ = 0
  · by_cases h2 : checkR ⟨m, c, d⟩ = 0
    · unfold addO
      cases e1 : timesO b d with
      | none => simp [h1, h2, resO, resV, rtV, zR, bs]
      | some x1 =>
        have s1 := sz_times e1
        cases e2 : timesO a d with
        | none => simp [h1, h2, resO, resV, rtV, zR, bs]
        | some x2 =>
          have s2 := sz_times e2
          cases e3 : timesO c b with
          | none => simp [h1, h2, resO, resV, rtV, zR, bs]
          | some x3 =>
            have s3 := sz_times e3
            cases e4 : saddO ⟨n, x2⟩ ⟨m, x3⟩ with
            | none => simp [h1, h2, s2, s3, e4, resO, resV, rtV, zR, bs]
            | some x4 =>
              have s4 := sz_sadd e4
              obtain ⟨q, r⟩ := x4
              simp only at s4
              cases e5 : overO ⟨q, r⟩ x1 with
              | none => simp [h1, h2, s1, s2, s3, s4, e4, e5, resO, resV, rtV, zR, bs]
              | some x5 => simp [h1, h2, s1, s2, s3, s4, e4, e5, resO, resV, rtV]
    · have h2' : (checkR ⟨m, c, d⟩ != 0) = true := by simpa using h2
      simp [h1, h2, h2', resV, rtV, zR, bs]
  · have h1' : (checkR ⟨n, a, b⟩ != 0) = true := by simpa using h1
    simp [h1, h1', resV, rtV, zR, bs]
set_option maxHeartbeats 2000000 in
theorem sub_end (n m : Bool) (a b c d : ByteArray) (ha : szB a = true) (hb : szB b = true) (hc : szB c = true) (hd : szB d = true) :
    sxEnd Try.prog Rd.no ratCon.p 40 26 [.agg #[.bool n, .string a, .string b], .agg #[.bool m, .string c, .string d]] = some (.returned (resV (subR ⟨n, a, b⟩ ⟨m, c, d⟩))) := by
  rw [T_sub]
  simp only [ha, hb, hc, hd, Bool.and_self, cond_true, eqL, ← isE_bs]
  unfold subR both negR
  by_cases h1 : checkR ⟨n, a, b⟩ = 0
  · by_cases h2 : checkR ⟨m, c, d⟩ = 0
    · have key : ∀ q : Bool, (!m && !isE c) = q → _ := fun q hq => hq
      unfold addO
      cases e1 : timesO b d with
      | none => cases m <;> simp [h1, h2, resO, resV, rtV, zR, bs]
      | some x1 =>
        have s1 := sz_times e1
        cases e2 : timesO a d with
        | none => cases m <;> simp [h1, h2, resO, resV, rtV, zR, bs]
        | some x2 =>
          have s2 := sz_times e2
          cases e3 : timesO c b with
          | none => cases m <;> simp [h1, h2, resO, resV, rtV, zR, bs]
          | some x3 =>
            have s3 := sz_times e3
            cases e4 : saddO ⟨n, x2⟩ ⟨!m && !isE c, x3⟩ with
            | none => cases m <;> simp at e4 <;> simp [h1, h2, s2, s3, e4, resO, resV, rtV, zR, bs]
            | some x4 =>
              have s4 := sz_sadd e4
              obtain ⟨q, r⟩ := x4
              simp only at s4
              cases e5 : overO ⟨q, r⟩ x1 with
              | none => cases m <;> simp at e4 <;> simp [h1, h2, s1, s2, s3, s4, e4, e5, resO, resV, rtV, zR, bs]
              | some x5 => cases m <;> simp at e4 <;> simp [h1, h2, s1, s2, s3, s4, e4, e5, resO, resV, rtV]
    · have h2' : (checkR ⟨m, c, d⟩ != 0) = true := by simpa using h2
      simp [h1, h2, h2', resV, rtV, zR, bs]
  · have h1' : (checkR ⟨n, a, b⟩ != 0) = true := by simpa using h1
    simp [h1, h1', resV, rtV, zR, bs]
set_option maxHeartbeats 2000000 in
theorem mul_end (n m : Bool) (a b c d : ByteArray) (ha : szB a = true) (hb : szB b = true) (hc : szB c = true) (hd : szB d = true) :
    sxEnd Try.prog Rd.no ratCon.p 40 28 [.agg #[.bool n, .string a, .string b], .agg #[.bool m, .string c, .string d]] = some (.returned (resV (mulR ⟨n, a, b⟩ ⟨m, c, d⟩))) := by
  rw [T_mul]
  simp only [ha, hb, hc, hd, Bool.and_self, cond_true]
  unfold mulR both
  by_cases h1 : checkR ⟨n, a, b⟩ = 0
  · by_cases h2 : checkR ⟨m, c, d⟩ = 0
    · unfold mulO
      have hne : (n != m) = !(n == m) := rfl
      cases e1 : timesO a c with
      | none => simp [h1, h2, resO, resV, rtV, zR, bs]
      | some x1 =>
        have s1 := sz_times e1
        cases e2 : timesO b d with
        | none => simp [h1, h2, resO, resV, rtV, zR, bs]
        | some x2 =>
          have s2 := sz_times e2
          cases e5 : overO ⟨n != m, x1⟩ x2 with
          | none => simp only [hne] at e5; simp [h1, h2, s1, s2, e5, hne, resO, resV, rtV, zR, bs]
          | some x5 => simp only [hne] at e5; simp [h1, h2, s1, s2, e5, hne, resO, resV, rtV]
    · have h2' : (checkR ⟨m, c, d⟩ != 0) = true := by simpa using h2
      simp [h1, h2, h2', resV, rtV, zR, bs]
  · have h1' : (checkR ⟨n, a, b⟩ != 0) = true := by simpa using h1
    simp [h1, h1', resV, rtV, zR, bs]
set_option maxHeartbeats 2000000 in
theorem div_end (n m : Bool) (a b c d : ByteArray) (ha : szB a = true) (hb : szB b = true) (hc : szB c = true) (hd : szB d = true) :
    sxEnd Try.prog Rd.no ratCon.p 40 30 [.agg #[.bool n, .string a, .string b], .agg #[.bool m, .string c, .string d]] = some (.returned (resV (divR ⟨n, a, b⟩ ⟨m, c, d⟩))) := by
  rw [T_div]
  simp only [ha, hb, hc, hd, Bool.and_self, cond_true, eqL, ← isE_bs]
  unfold divR both
  by_cases h1 : checkR ⟨n, a, b⟩ = 0
  · by_cases h2 : checkR ⟨m, c, d⟩ = 0
    · cases hz : isE c with
      | true => simp [h1, h2, hz, resV, rtV, zR, bs]
      | false =>
        unfold mulO
        have hne : (n != m) = !(n == m) := rfl
        cases e1 : timesO a d with
        | none => simp [h1, h2, hz, resO, resV, rtV, zR, bs]
        | some x1 =>
          have s1 := sz_times e1
          cases e2 : timesO b c with
          | none => simp [h1, h2, hz, resO, resV, rtV, zR, bs]
          | some x2 =>
            have s2 := sz_times e2
            cases e5 : overO ⟨n != m, x1⟩ x2 with
            | none => simp only [hne] at e5; simp [h1, h2, hz, s1, s2, e5, hne, resO, resV, rtV, zR, bs]
            | some x5 => simp only [hne] at e5; simp [h1, h2, hz, s1, s2, e5, hne, resO, resV, rtV]
    · have h2' : (checkR ⟨m, c, d⟩ != 0) = true := by simpa using h2
      simp [h1, h2, h2', resV, rtV, zR, bs]
  · have h1' : (checkR ⟨n, a, b⟩ != 0) = true := by simpa using h1
    simp [h1, h1', resV, rtV, zR, bs]
set_option maxHeartbeats 4000000 in
theorem cmp_end (n m : Bool) (a b c d : ByteArray) (ha : szB a = true) (hb : szB b = true) (hc : szB c = true) (hd : szB d = true) :
    sxEnd Try.prog Rd.no ratCon.p 40 32 [.agg #[.bool n, .string a, .string b], .agg #[.bool m, .string c, .string d]] = some (.returned (intV (cmpR ⟨n, a, b⟩ ⟨m, c, d⟩))) := by
  rw [T_cmp]
  simp only [ha, hb, hc, hd, Bool.and_self, cond_true]
  unfold cmpR
  by_cases h1 : checkR ⟨n, a, b⟩ = 0
  · by_cases h2 : checkR ⟨m, c, d⟩ = 0
    · cases e1 : timesO a d with
      | none => simp [h1, h2, intV]
      | some x =>
        have s1 := sz_times e1
        cases e2 : timesO c b with
        | none => simp [h1, h2, intV]
        | some y =>
          have s2 := sz_times e2
          have l1 : decide ((cmpF x y).1 < 0) = lessB x y := rfl
          have l2 : decide ((cmpF y x).1 < 0) = lessB y x := rfl
          simp only [h1, h2, Option.isSome_some, Option.getD_some, s1, s2, l1, l2, Bool.and_self, cond_true, cond_false, bne_self_eq_false, if_true]
          unfold ordS intV
          by_cases hxy : x = y
          · have hb' : (x == y) = true := by rw [beqB]; exact decide_eq_true hxy
            rw [hb']
            cases n <;> cases m <;> cases lessB x y <;> cases lessB y x <;> simp [hxy]
          · have hb' : (x == y) = false := by rw [beqB]; exact decide_eq_false hxy
            rw [hb']
            cases n <;> cases m <;> cases lessB x y <;> cases lessB y x <;> simp [hxy]
    · have h2' : (checkR ⟨m, c, d⟩ != 0) = true := by simpa using h2
      simp [h1, h2, h2', intV]
  · have h1' : (checkR ⟨n, a, b⟩ != 0) = true := by simpa using h1
    simp [h1, h1', intV]

def floorR (a : Rt) : Int × Int :=
  if checkR a = 0 then
    if (intF (divF a.n a.d).1).2 = false ∨ (intF (divF a.n a.d).1).1 > 4611686018427387904 then (0, 2)
    else if a.neg = false then ((intF (divF a.n a.d).1).1, 0)
    else if (if isE (divF a.n a.d).2.1 then (intF (divF a.n a.d).1).1 else (intF (divF a.n a.d).1).1 + 1) > 4611686018427387904 then (0, 2)
    else (-(if isE (divF a.n a.d).2.1 then (intF (divF a.n a.d).1).1 else (intF (divF a.n a.d).1).1 + 1), 0)
  else (0, checkR a)
def ceilR (a : Rt) : Int × Int := if checkR a = 0 then (-(floorR (negR a)).1, (floorR (negR a)).2) else (0, checkR a)
theorem divF_size (a b : ByteArray) : (divF a b).1.size ≤ 256 := by
  unfold divF
  split
  · rename_i h
    obtain ⟨n1, n2, s1, s2⟩ := chk2_zero h
    obtain ⟨ea, sA⟩ := natE n1 s1
    split
    · exact Nat.zero_le _
    · show (encS _).size ≤ 256
      rw [size_encS]
      exact sA.mono (Nat.div_le_self _ _)
  · exact Nat.zero_le _
theorem intF_range (s : ByteArray) : 0 ≤ (intF s).1 ∧ (intF s).1 < 9223372036854775808 := by
  unfold intF
  split
  · rename_i h
    simp only
    omega
  · simp
theorem floor_end (n : Bool) (a b : ByteArray) (ha : szB a = true) (hb : szB b = true) :
    sxEnd Try.prog Rd.no ratCon.p 40 16 [.agg #[.bool n, .string a, .string b]] = some (.returned (intV (floorR ⟨n, a, b⟩))) := by
  rw [T_floor]
  simp only [ha, hb, sz256 (divF_size a b), Bool.and_self, cond_true, eqL, ← isE_bs]
  unfold floorR intV
  by_cases h1 : checkR ⟨n, a, b⟩ = 0
  · obtain ⟨r1, r2⟩ := intF_range (divF a b).1
    simp only [h1, if_true, bne_self_eq_false, cond_false]
    generalize (intF (divF a b).1).1 = i at *
    generalize (intF (divF a b).1).2 = o at *
    generalize isE (divF a b).2.1 = z
    by_cases hi : i > 4611686018427387904
    · cases o <;> simp [hi]
    · have w1 : IntKind.i64.wrap (i + 1) = i + 1 := wrapI (by omega) (by omega)
      have w2 : IntKind.i64.wrap (0 - (i + 1)) = -(i + 1) := by rw [wrapI (by omega) (by omega)]; omega
      have w3 : IntKind.i64.wrap (0 - i) = -i := by rw [wrapI (by omega) (by omega)]; omega
      rw [w1, w2, w3]
      by_cases hj : i + 1 > 4611686018427387904
      · cases o <;> cases n <;> cases z <;> simp [hi, hj]
      · cases o <;> cases n <;> cases z <;> simp [hi, hj]
  · have h1' : (checkR ⟨n, a, b⟩ != 0) = true := by simpa using h1
    simp [h1, h1']
def newR (n d : Int) : Rt × Int := if d = 0 then (zR, 71) else resO (overO ⟨decide (n < 0) != decide (d < 0), encS n.natAbs⟩ (encS d.natAbs))
theorem over_small {n : Bool} {a d : Nat} (ha : Sm a) (hd : Sm d) : overO ⟨n, encS a⟩ (encS d) = some (overR ⟨n, encS a⟩ (encS d) (encS (Nat.gcd a d))) := by
  unfold overO mustO
  rw [gcdE ha hd]
  rfl
theorem sm_abs {n : Int} (h : inI n = true) : Sm n.natAbs := by
  unfold inI at h
  rw [Bool.and_eq_true, decide_eq_true_eq, decide_eq_true_eq] at h
  have := enc_sm (n := n.natAbs) (by omega)
  rwa [size_encS'] at this
theorem new_end (n d : Int) (hn : inI n = true) (hd : inI d = true) : sxEnd Try.prog Rd.no ratCon.p 40 14 [.int .i64 n, .int .i64 d] = some (.returned (resV (newR n d))) := by
  rw [T_new]
  have sn := sm_abs hn
  have sd := sm_abs hd
  simp only [hn, hd, sz256 sn.size, sz256 sd.size, Bool.and_self, cond_true]
  unfold newR
  have hne : (decide (n < 0) != decide (d < 0)) = !(decide (n < 0) == decide (d < 0)) := rfl
  by_cases h : d = 0
  · simp [h, resV, rtV, zR, bs]
  · have hb : (d == 0) = false := by simpa using h
    rw [hb, if_neg h, hne, over_small sn sd]
    simp [resO, resV, rtV]
/-- the table with Floor -/
def flCon : ECon := fun f =>
  match f with
  | 16 => some fun vs => match vs with
    | [.agg ⟨[.bool n, .string a, .string b]⟩] => .need (szB a && szB b) (.ok (.ret (.tup [.val (.int .i64 (floorR ⟨n, a, b⟩).1), .val (.int .i64 (floorR ⟨n, a, b⟩).2)])))
    | _ => .no
  | f => ratCon f
theorem flCon_ok : EConOk Try.prog flCon := by
  intro f h hf
  unfold flCon at hf
  split at hf
  · cases hf
    refine ⟨⟨_, Try.func16, rfl⟩, fun vs e he => ?_⟩
    simp only at he
    split at he
    · obtain ⟨h1, h2⟩ := R3.need_some he
      cases h2
      rw [Bool.and_eq_true] at h1
      exact ⟨_, rfl, plain_sound pOk (ECon.ok ratCon_ok) 40 (floor_end _ _ _ h1.1 h1.2)⟩
    · cases he
  · exact ratCon_ok _ _ hf

end Go.Proofs.Ytmcejefeloljiaa

/-
  What the symbolic executor shows of Ceil.
-/
namespace Go.Proofs.Ytmcejefeloljiaa
open Go.RowKit Nm Go.SX

set_option maxRecDepth 100000 in
theorem T_ceil (n : Bool) (a b : ByteArray) : sxEnd Try.prog Rd.no flCon.p 40 18 [.agg #[.bool n, .string a, .string b]] =
    bif szB a && szB b then
      bif checkR { neg := n, n := a, d := b } != 0 then
        some
          (Ending.returned
            (Value.tuple
              { toList := [Value.int IntKind.i64 0, Value.int IntKind.i64 (checkR { neg := n, n := a, d := b })] }))
      else
        bif !n then
          bif szB a && szB b then
            some
              (Ending.returned
                (Value.tuple
                  {
                    toList :=
                      [Value.int IntKind.i64
                          (IntKind.i64.wrap
                            (0 -
                              (floorR
                                  { neg := bif true then !a.toList == (bs []).toList else false, n := a,
                                    d := b }).fst)),
                        Value.int IntKind.i64
                          (floorR
                              { neg := bif true then !a.toList == (bs []).toList else false, n := a,
                                d := b }).snd] }))
          else none
        else
          bif szB a && szB b then
            some
              (Ending.returned
                (Value.tuple
                  {
                    toList :=
                      [Value.int IntKind.i64 (IntKind.i64.wrap (0 - (floorR { neg := false, n := a, d := b }).fst)),
                        Value.int IntKind.i64 (floorR { neg := false, n := a, d := b }).snd] }))
          else none
    else none := by kernel_rfl

end Go.Proofs.Ytmcejefeloljiaa

/-
  Package ratios: the table of its functions.
-/
namespace Go.Proofs.Ytmcejefeloljiaa
open Go.RowKit Nm Go.SX

theorem check_neg (a : Rt) (h : checkR a = 0) : checkR (negR a) = 0 := by
  unfold checkR at h ⊢
  unfold badR at h ⊢
  unfold negR
  simp only
  cases hn : a.neg <;> cases he : isE a.n <;> simp_all
theorem floorR_range (a : Rt) : -4611686018427387904 ≤ (floorR a).1 ∧ (floorR a).1 ≤ 4611686018427387904 := by
  obtain ⟨r1, r2⟩ := intF_range (divF a.n a.d).1
  unfold floorR
  generalize (intF (divF a.n a.d).1).1 = i at *
  generalize (intF (divF a.n a.d).1).2 = o at *
  generalize isE (divF a.n a.d).2.1 = z
  have key : ∀ j : Int, 0 ≤ j → -4611686018427387904 ≤ (if j > 4611686018427387904 then ((0, 2) : Int × Int) else (-j, 0)).1 ∧ (if j > 4611686018427387904 then ((0, 2) : Int × Int) else (-j, 0)).1 ≤ 4611686018427387904 := by
    intro j hj
    split
    · simp
    · simp only; omega
  split
  · split
    · simp
    · rename_i h
      split
      · simp only; omega
      · split
        · exact key _ (by omega)
        · exact key _ (by omega)
  · simp
theorem ceil_end (n : Bool) (a b : ByteArray) (ha : szB a = true) (hb : szB b = true) :
    sxEnd Try.prog Rd.no flCon.p 40 18 [.agg #[.bool n, .string a, .string b]] = some (.returned (intV (ceilR ⟨n, a, b⟩))) := by
  rw [T_ceil]
  simp only [ha, hb, Bool.and_self, cond_true, eqL, ← isE_bs]
  unfold ceilR intV
  have w : ∀ x : Rt, IntKind.i64.wrap (0 - (floorR x).1) = -(floorR x).1 := fun x => by
    have := floorR_range x
    rw [wrapI (by omega) (by omega)]
    omega
  have w2 : ∀ x : Rt, IntKind.i64.wrap (-(floorR x).1) = -(floorR x).1 := fun x => by
    have := w x
    rwa [Int.zero_sub] at this
  by_cases h1 : checkR ⟨n, a, b⟩ = 0
  · cases n <;> simp [h1, w2, negR]
  · have h1' : (checkR ⟨n, a, b⟩ != 0) = true := by simpa using h1
    simp [h1, h1']
def retR (p : Rt × Int) : R3 OutE := .ok (.ret (.tup [.val (.agg #[.bool p.1.neg, .string p.1.n, .string p.1.d]), .val (.int .i64 p.2)]))
def retI (p : Int × Int) : R3 OutE := .ok (.ret (.tup [.val (.int .i64 p.1), .val (.int .i64 p.2)]))
def binR (g : Rt → Rt → Rt × Int) (vs : List Value) : R3 OutE :=
  match vs with
  | [.agg ⟨[.bool n, .string a, .string b]⟩, .agg ⟨[.bool m, .string c, .string d]⟩] => .need (szB a && szB b && (szB c && szB d)) (retR (g ⟨n, a, b⟩ ⟨m, c, d⟩))
  | _ => .no
def apiCon : ECon := fun f =>
  match f with
  | 24 => some (binR addR)
  | 26 => some (binR subR)
  | 28 => some (binR mulR)
  | 30 => some (binR divR)
  | 32 => some fun vs => match vs with
    | [.agg ⟨[.bool n, .string a, .string b]⟩, .agg ⟨[.bool m, .string c, .string d]⟩] => .need (szB a && szB b && (szB c && szB d)) (retI (cmpR ⟨n, a, b⟩ ⟨m, c, d⟩))
    | _ => .no
  | 18 => some fun vs => match vs with
    | [.agg ⟨[.bool n, .string a, .string b]⟩] => .need (szB a && szB b) (retI (ceilR ⟨n, a, b⟩))
    | _ => .no
  | 14 => some fun vs => match vs with
    | [.int .i64 n, .int .i64 d] => .need (inI n && inI d) (retR (newR n d))
    | _ => .no
  | f => flCon f
theorem binR_ok {f : FuncId} {g : Rt → Rt → Rt × Int} (h : ∀ n m a b c d, szB a = true → szB b = true → szB c = true → szB d = true →
    Plain Try.prog f [.agg #[.bool n, .string a, .string b], .agg #[.bool m, .string c, .string d]] (.returned (resV (g ⟨n, a, b⟩ ⟨m, c, d⟩)))) (vs : List Value) (e : OutE) (he : (binR g vs).res = some e) :
    ∃ e0, e.end = some e0 ∧ Plain Try.prog f vs e0 := by
  unfold binR at he
  split at he
  · obtain ⟨h1, h2⟩ := R3.need_some he
    cases h2
    simp only [Bool.and_eq_true] at h1
    exact ⟨_, rfl, h _ _ _ _ _ _ h1.1.1 h1.1.2 h1.2.1 h1.2.2⟩
  · cases he
theorem apiCon_ok : EConOk Try.prog apiCon := by
  have pl : ∀ {f : FuncId} {vs : List Value} {e0 : Ending}, sxEnd Try.prog Rd.no ratCon.p 40 f vs = some e0 → Plain Try.prog f vs e0 := fun h => plain_sound pOk (ECon.ok ratCon_ok) 40 h
  intro f h hf
  unfold apiCon at hf
  split at hf
  · cases hf; exact ⟨⟨_, Try.func24, rfl⟩, binR_ok fun n m a b c d h1 h2 h3 h4 => pl (add_end n m a b c d h1 h2 h3 h4)⟩
  · cases hf; exact ⟨⟨_, Try.func26, rfl⟩, binR_ok fun n m a b c d h1 h2 h3 h4 => pl (sub_end n m a b c d h1 h2 h3 h4)⟩
  · cases hf; exact ⟨⟨_, Try.func28, rfl⟩, binR_ok fun n m a b c d h1 h2 h3 h4 => pl (mul_end n m a b c d h1 h2 h3 h4)⟩
  · cases hf; exact ⟨⟨_, Try.func30, rfl⟩, binR_ok fun n m a b c d h1 h2 h3 h4 => pl (div_end n m a b c d h1 h2 h3 h4)⟩
  · cases hf
    refine ⟨⟨_, Try.func32, rfl⟩, fun vs e he => ?_⟩
    simp only at he
    split at he
    · obtain ⟨h1, h2⟩ := R3.need_some he
      cases h2
      simp only [Bool.and_eq_true] at h1
      exact ⟨_, rfl, pl (cmp_end _ _ _ _ _ _ h1.1.1 h1.1.2 h1.2.1 h1.2.2)⟩
    · cases he
  · cases hf
    refine ⟨⟨_, Try.func18, rfl⟩, fun vs e he => ?_⟩
    simp only at he
    split at he
    · obtain ⟨h1, h2⟩ := R3.need_some he
      cases h2
      rw [Bool.and_eq_true] at h1
      exact ⟨_, rfl, plain_sound pOk (ECon.ok flCon_ok) 40 (ceil_end _ _ _ h1.1 h1.2)⟩
    · cases he
  · cases hf
    refine ⟨⟨_, Try.func14, rfl⟩, fun vs e he => ?_⟩
    simp only at he
    split at he
    · obtain ⟨h1, h2⟩ := R3.need_some he
      cases h2
      rw [Bool.and_eq_true] at h1
      exact ⟨_, rfl, pl (new_end _ _ h1.1 h1.2)⟩
    · cases he
  · exact flCon_ok _ _ hf

end Go.Proofs.Ytmcejefeloljiaa

/-
  The examples of the chapter.
-/
namespace Go.Proofs.Ytmcejefeloljiaa
open Go.RowKit Nm Go.SX

def bRt (a b : Rt) : Bool := (a.neg == b.neg) && ((a.n == b.n) && (a.d == b.d))
theorem bRt_eq {a b : Rt} (h : bRt a b = true) : a = b := by
  obtain ⟨n, x, y⟩ := a
  obtain ⟨m, z, u⟩ := b
  unfold bRt at h
  simp only [beqB, Bool.and_eq_true, decide_eq_true_eq, beq_iff_eq] at h
  obtain ⟨h1, h2, h3⟩ := h
  rw [h1, h2, h3]
/-- a result that is one of some is that one -/
def oneR (p : Rt × Int) : List (Rt × Int) → R3 OutE
  | [] => .no
  | c :: l => .br (bRt p.1 c.1 && p.2 == c.2) (retR c) (oneR p l)
theorem oneR_eq {p : Rt × Int} : ∀ {l : List (Rt × Int)} {e : OutE}, (oneR p l).res = some e → (retR p).res = some e
  | [], _, h => by cases h
  | c :: l, e, h => by
    simp only [oneR, R3.res] at h
    cases hb : (bRt p.1 c.1 && p.2 == c.2) with
    | true =>
      rw [hb] at h
      rw [Bool.and_eq_true] at hb
      have h1 := bRt_eq hb.1
      have h2 : p.2 = c.2 := by simpa using hb.2
      have : p = c := Prod.ext h1 h2
      rw [this]
      exact h
    | false =>
      rw [hb] at h
      exact oneR_eq h
def oneI (p : Int × Int) : List (Int × Int) → R3 OutE
  | [] => .no
  | c :: l => .br (p.1 == c.1 && p.2 == c.2) (retI c) (oneI p l)
theorem oneI_eq {p : Int × Int} : ∀ {l : List (Int × Int)} {e : OutE}, (oneI p l).res = some e → (retI p).res = some e
  | [], _, h => by cases h
  | c :: l, e, h => by
    simp only [oneI, R3.res] at h
    cases hb : (p.1 == c.1 && p.2 == c.2) with
    | true =>
      rw [hb] at h
      rw [Bool.and_eq_true] at hb
      have : p = c := Prod.ext (by simpa using hb.1) (by simpa using hb.2)
      rw [this]
      exact h
    | false =>
      rw [hb] at h
      exact oneI_eq h
def saneL : List (Rt × Int) := [(⟨true, bs [2], bs [3]⟩, 0), (⟨false, bs [], bs [1]⟩, 0), (⟨false, bs [], bs []⟩, 71), (⟨false, bs [], bs [1]⟩, 71), (⟨false, bs [4], bs [15]⟩, 0), (⟨true, bs [1], bs [2]⟩, 0), (⟨true, bs [3], bs [4]⟩, 0)]
def saneI : List (Int × Int) := [(-1, 0), (0, 0), (3, 0), (4, 0)]
def filt (e : OutE) : R3 OutE :=
  match e with
  | .ret (.tup [.val (.agg ⟨[.bool a, .string b, .string c]⟩), .val (.int .i64 k)]) => oneR (⟨a, b, c⟩, k) saneL
  | .ret (.tup [.val (.int .i64 a), .val (.int .i64 k)]) => oneI (a, k) saneI
  | e => .ok e
theorem filt_eq {e e' : OutE} (h : (filt e).res = some e') : e' = e := by
  unfold filt at h
  split at h
  · have := oneR_eq h
    cases this
    rfl
  · have := oneI_eq h
    cases this
    rfl
  · cases h
    rfl
def fltCon (g : ECon) : ECon := fun f =>
  match g f with
  | some h => some fun vs => (h vs).bind filt
  | none => none
theorem fltCon_ok {g : ECon} (hg : EConOk Try.prog g) : EConOk Try.prog (fltCon g) := by
  intro f h hf
  unfold fltCon at hf
  split at hf
  · rename_i h0 hh
    cases hf
    obtain ⟨h1, h2⟩ := hg f h0 hh
    refine ⟨h1, fun vs e he => ?_⟩
    obtain ⟨e0, h3, h4⟩ := R3.bind_some _ _ _ he
    rw [filt_eq h4]
    exact h2 vs e0 h3
  · cases hf
def saneCon : ECon := fltCon apiCon
set_option maxRecDepth 100000 in
theorem T_sane : sxEnd Try.prog Rd.no saneCon.p 60 12 [] = some (.returned (.bool true)) := by kernel_rfl
def lawCon : ECon := fun f =>
  match f with
  | 12 => some fun vs => match vs with | [] => .ok (.ret (.val (.bool true))) | _ => .no
  | f => apiCon f
theorem lawCon_ok : EConOk Try.prog lawCon := by
  intro f h hf
  unfold lawCon at hf
  split at hf
  · cases hf
    refine ⟨⟨_, Try.func12, rfl⟩, fun vs e he => ?_⟩
    simp only at he
    split at he
    · cases he
      exact ⟨_, rfl, plain_sound pOk (ECon.ok (fltCon_ok apiCon_ok)) 60 T_sane⟩
    · cases he
  · exact apiCon_ok _ _ hf

end Go.Proofs.Ytmcejefeloljiaa

/-
  Plain numbers: lists of ints to the base 256, the least significant first (the reference's sums and products).
-/
namespace Go.Proofs.Ytmcejefeloljiaa.Nm

/-- the value of a list of ints, the least significant first -/
def vle : List Int → Int
  | [] => 0
  | x :: l => x + 256 * vle l
/-- the bytes of a text, the last one first -/
def dgi (b : List UInt8) : List Int := (b.map fun x => ((x.toNat : Nat) : Int)).reverse

theorem vle_append (l m : List Int) : vle (l ++ m) = vle l + 256 ^ l.length * vle m := by
  induction l with
  | nil => simp [vle]
  | cons x l ih =>
    simp only [List.cons_append, vle, ih, List.length_cons, Int.pow_succ, Int.mul_add]
    rw [Int.mul_comm (256 ^ l.length) 256, Int.mul_assoc]
    omega
theorem vle_snoc (l : List Int) (x : Int) : vle (l ++ [x]) = vle l + 256 ^ l.length * x := by
  rw [vle_append]; simp [vle]
theorem vle_split (l : List Int) (i : Nat) (h : i ≤ l.length) : vle l = vle (l.take i) + 256 ^ i * vle (l.drop i) := by
  have := vle_append (l.take i) (l.drop i)
  rw [List.take_append_drop, List.length_take, Nat.min_eq_left h] at this
  exact this
theorem vle_drop (l : List Int) (i : Nat) (h : i < l.length) : vle (l.drop i) = l[i] + 256 * vle (l.drop (i + 1)) := by
  rw [List.drop_eq_getElem_cons h]; rfl
theorem vle_take (l : List Int) (i : Nat) : vle (l.take (i + 1)) = vle (l.take i) + 256 ^ i * l.getD i 0 := by
  by_cases h : i < l.length
  · rw [List.take_succ_eq_append_getElem h, vle_snoc, List.length_take, Nat.min_eq_left (by omega)]
    simp [List.getD, h]
  · rw [List.take_of_length_le (by omega), List.take_of_length_le (by omega)]
    simp [List.getD, List.getElem?_eq_none (by omega : l.length ≤ i)]
theorem vle_set (l : List Int) (i : Nat) (x : Int) (h : i < l.length) : vle (l.set i x) = vle l + 256 ^ i * (x - l[i]) := by
  induction l generalizing i with
  | nil => simp at h
  | cons y l ih =>
    cases i with
    | zero => simp [vle]; omega
    | succ i =>
      simp only [List.length_cons] at h
      simp only [List.set_cons_succ, vle, List.getElem_cons_succ, ih i (by omega), Int.pow_succ, Int.mul_add]
      rw [Int.mul_comm (256 ^ i) 256, Int.mul_assoc]
      omega
theorem vle_nonneg (l : List Int) (h : ∀ x ∈ l, 0 ≤ x) : 0 ≤ vle l := by
  induction l with
  | nil => simp [vle]
  | cons x l ih =>
    have h1 := h x (by simp)
    have h2 := ih fun y hy => h y (by simp [hy])
    simp only [vle]; omega
theorem vle_lt (l : List Int) (h : ∀ x ∈ l, x < 256) : vle l < 256 ^ l.length := by
  induction l with
  | nil => simp [vle]
  | cons x l ih =>
    have h1 := h x (by simp)
    have h2 := ih fun y hy => h y (by simp [hy])
    simp only [vle, List.length_cons, Int.pow_succ]; omega
theorem vle_replicate (n : Nat) : vle (List.replicate n 0) = 0 := by
  induction n with
  | zero => rfl
  | succ n ih => rw [List.replicate_succ, vle, ih]; rfl
theorem length_dgi (b : List UInt8) : (dgi b).length = b.length := by simp [dgi]
theorem vle_dgi (b : List UInt8) : vle (dgi b) = ((val b : Nat) : Int) := by
  induction b with
  | nil => rfl
  | cons x l ih =>
    have e : dgi (x :: l) = dgi l ++ [((x.toNat : Nat) : Int)] := by simp [dgi]
    rw [e, vle_snoc, ih, length_dgi, val_cons, Int.natCast_add, Int.natCast_mul, Int.natCast_pow, Int.mul_comm]
    simp only [Int.cast_ofNat_Int]
    omega
theorem dgi_range (b : List UInt8) : ∀ x ∈ dgi b, 0 ≤ x ∧ x < 256 := by
  intro x hx
  simp only [dgi, List.mem_reverse, List.mem_map] at hx
  obtain ⟨y, _, rfl⟩ := hx
  have := y.toNat_lt
  omega
/-- digits, one more -/
theorem dgi_drop (b : List UInt8) (i : Nat) (h : i < b.length) : dgi (b.drop i) = dgi (b.drop (i + 1)) ++ [((b[i].toNat : Nat) : Int)] := by
  rw [List.drop_eq_getElem_cons h]
  unfold dgi
  rw [List.map_cons, List.reverse_cons]
theorem getD_range {l : List Int} {a b : Int} (h : ∀ x ∈ l, a ≤ x ∧ x < b) (ha : a ≤ 0) (hb : 0 < b) (i : Nat) : a ≤ l.getD i 0 ∧ l.getD i 0 < b := by
  by_cases hi : i < l.length
  · simp only [List.getD, List.getElem?_eq_getElem hi, Option.getD_some]
    exact h _ (List.getElem_mem hi)
  · simp only [List.getD, List.getElem?_eq_none (by omega : l.length ≤ i), Option.getD_none]
    exact ⟨ha, hb⟩

/-- between two rounds of 'carry' -/
structure carryI (l out : List Int) (over : Int) (i : Nat) : Prop where
  len : out.length = i
  rng : ∀ x ∈ out, 0 ≤ x ∧ x < 256
  sum : vle out + 256 ^ i * (over + vle (l.drop i)) = vle l
  low : i ≤ l.length → -17179869184 ≤ over ∧ over ≤ 17179869184
  top : l.length < i → 0 ≤ over ∧ over * 256 ^ (i - l.length) ≤ 17179869184
theorem carryI.zero (l : List Int) : carryI l [] 0 0 :=
  ⟨rfl, by simp, by simp [vle], by omega, by omega⟩
theorem carryI.step {l out : List Int} {over d : Int} {i : Nat} (h : carryI l out over i) (hi : i < l.length) (hd : d = over + l[i]) (he : -8589934592 ≤ l[i] ∧ l[i] ≤ 8589934592) :
    carryI l (out ++ [d % 256]) (d / 256) (i + 1) := by
  obtain ⟨h1, h2, h3, h4, _⟩ := h
  have hl := h4 (by omega)
  refine ⟨by simp [h1], ?_, ?_, by omega, by omega⟩
  · intro x hx
    rw [List.mem_append] at hx
    rcases hx with hx | hx
    · exact h2 x hx
    · simp at hx; subst hx; omega
  · rw [vle_snoc, h1, ← h3, vle_drop l i hi, Int.pow_succ, Int.mul_assoc, Int.add_assoc, ← Int.mul_add]
    congr 2
    omega
theorem carryI.more {l out : List Int} {over : Int} {i : Nat} (h : carryI l out over i) (hi : l.length ≤ i) (hp : 0 < over) :
    carryI l (out ++ [over % 256]) (over / 256) (i + 1) ∧ i ≤ l.length + 5 := by
  obtain ⟨h1, h2, h3, h4, h5⟩ := h
  have hb : over * 256 ^ (i - l.length) ≤ 17179869184 := by
    by_cases he : i = l.length
    · subst he; simp; exact (h4 (Nat.le_refl _)).2
    · exact (h5 (by omega)).2
  refine ⟨⟨by simp [h1], ?_, ?_, by omega, ?_⟩, ?_⟩
  · intro x hx
    rw [List.mem_append] at hx
    rcases hx with hx | hx
    · exact h2 x hx
    · simp at hx; subst hx; omega
  · rw [vle_snoc, h1, ← h3, List.drop_of_length_le hi, List.drop_of_length_le (by omega)]
    simp only [vle]
    rw [Int.pow_succ, Int.mul_assoc, Int.add_assoc, ← Int.mul_add]
    congr 2
    omega
  · intro _
    refine ⟨by omega, ?_⟩
    rw [show i + 1 - l.length = (i - l.length) + 1 by omega, Int.pow_succ]
    have hp2 : (0 : Int) ≤ 256 ^ (i - l.length) := Int.pow_nonneg (by omega)
    have : over / 256 * (256 ^ (i - l.length) * 256) = (over / 256 * 256) * 256 ^ (i - l.length) := by
      rw [Int.mul_comm (256 ^ (i - l.length)) 256, Int.mul_assoc]
    rw [this]
    exact Int.le_trans (Int.mul_le_mul_of_nonneg_right (show over / 256 * 256 ≤ over by omega) hp2) hb
  · apply Decidable.byContradiction
    intro hc
    have e : (256 : Int) ^ 6 ≤ 256 ^ (i - l.length) := by
      have := Nat.pow_le_pow_right (show 0 < 256 by omega) (show 6 ≤ i - l.length by omega)
      have h6 : ((256 ^ 6 : Nat) : Int) ≤ ((256 ^ (i - l.length) : Nat) : Int) := by omega
      rw [Int.natCast_pow, Int.natCast_pow] at h6
      exact h6
    have e2 : 1 * (256 : Int) ^ (i - l.length) ≤ over * 256 ^ (i - l.length) := Int.mul_le_mul_of_nonneg_right (by omega) (Int.pow_nonneg (by omega))
    have e3 : (256 : Int) ^ 6 = 281474976710656 := by decide
    omega
theorem carryI.bound {l out : List Int} {over : Int} {i : Nat} (h : carryI l out over i) : -17179869184 ≤ over ∧ over ≤ 17179869184 := by
  obtain ⟨h1, h2, h3, h4, h5⟩ := h
  by_cases hi : i ≤ l.length
  · exact h4 hi
  · have h6 := h5 (by omega)
    have hp : (1 : Int) ≤ 256 ^ (i - l.length) := Int.pow_pos (by omega)
    have := Int.mul_le_mul_of_nonneg_left hp h6.1
    omega
theorem carryI.done {l out : List Int} {over : Int} {i : Nat} (h : carryI l out over i) (hi : l.length ≤ i) (hp : over ≤ 0) (hv : 0 ≤ vle l) : vle out = vle l := by
  obtain ⟨h1, h2, h3, h4, h5⟩ := h
  rw [List.drop_of_length_le hi] at h3
  simp only [vle, Int.add_zero] at h3
  have hlt := vle_lt out fun x hx => (h2 x hx).2
  rw [h1] at hlt
  by_cases h0 : over = 0
  · subst h0; rw [Int.mul_zero, Int.add_zero] at h3; exact h3
  · exfalso
    have hp2 : (0 : Int) < 256 ^ i := Int.pow_pos (by omega)
    have : 256 ^ i * over ≤ 256 ^ i * (-1) := Int.mul_le_mul_of_nonneg_left (by omega) (by omega)
    omega

/-- texts of one length are compared byte by byte -/
theorem val_lt_of_digit (p s t : List UInt8) (x y : UInt8) (hl : s.length = t.length) (h : x.toNat < y.toNat) : val (p ++ x :: s) < val (p ++ y :: t) := by
  rw [val_append, val_append, List.length_cons, List.length_cons, hl, val_cons, val_cons, hl]
  have h1 := val_lt s
  rw [hl] at h1
  have h2 : (x.toNat + 1) * 256 ^ t.length ≤ y.toNat * 256 ^ t.length := Nat.mul_le_mul_right _ h
  rw [Nat.add_mul] at h2
  omega
end Go.Proofs.Ytmcejefeloljiaa.Nm

/-
  Small laws for walks: a slice of ints, negative ones too, that the call itself made.
-/
namespace Go.Proofs.Ytmcejefeloljiaa
open Go.RowKit

/-- The slice v, of numbers of kind k, owns the cells xs (from block B on). -/
def OwnI (w : World) (B : Nat) (E : TypeId) (k : IntKind) (v : Value) (xs : List Int) : Prop :=
  w.ownsRow B E 1 v xs.length (xs.map fun x => .int k x)

section
variable {w w' : World} {B : Nat} {E : TypeId} {k : IntKind} {v : Value} {xs : List Int}
theorem OwnI.shape (h : OwnI w B E k v xs) : ∃ oa cap, v = .slice oa xs.length cap ∧ (oa = none → xs = []) ∧ (∀ a, oa = some a → a = ⟨a.block, 0, none⟩ ∧ B ≤ a.block ∧ a.block < w.heap.size) ∧ xs.length ≤ cap ∧ cap ≤ maxLen := by
  rcases h.2 with ⟨rfl, hn⟩ | ⟨g, cap, cur, rfl, hb, hg, hle, hcm, _⟩
  · exact ⟨none, 0, by rw [hn], fun _ => List.eq_nil_of_length_eq_zero hn, (fun _ h => by cases h), by omega, by simp [maxLen]⟩
  · refine ⟨_, cap, rfl, (fun h => by cases h), (fun a h => ?_), hle, hcm⟩
    cases h
    exact ⟨rfl, hb, (Array.getElem?_eq_some_iff.1 hg).1⟩
/-- the slice's form, no more -/
theorem OwnI.shp (h : OwnI w B E k v xs) : ∃ oa cap, v = .slice oa xs.length cap ∧ xs.length ≤ cap ∧ cap ≤ 9223372036854775807 := by
  obtain ⟨oa, cap, hv, _, _, h1, h2⟩ := h.shape
  exact ⟨oa, cap, hv, h1, by simpa [maxLen] using h2⟩
theorem OwnI.cell {g n cap : Nat} (h : OwnI w B E k (.slice (some ⟨g, 0, none⟩) n cap) xs) (j : Nat) (hj : j < xs.length) :
    w.cell? ⟨g, j, none⟩ = some (.int k xs[j]) := by
  have hn : n = xs.length := by
    obtain ⟨oa, c, hv, _⟩ := h.shape
    cases hv; rfl
  subst hn
  rw [World.ownsRow.cellAt h j (by omega)]
  simp [hj]
theorem OwnI.frozen {g n cap : Nat} (h : OwnI w B E k (.slice (some ⟨g, 0, none⟩) n cap) xs) (j : Nat) : w.frozen? ⟨g, j, none⟩ = false := by
  have hn : n = xs.length := by
    obtain ⟨oa, c, hv, _⟩ := h.shape
    cases hv; rfl
  subst hn
  exact World.ownsRow.frozenAt h j
theorem OwnI.stored {g n cap : Nat} (h : OwnI w B E k (.slice (some ⟨g, 0, none⟩) n cap) xs) (j : Nat) (x : Int) :
    OwnI (w.setCell ⟨g, j, none⟩ (.int k x)) B E k (.slice (some ⟨g, 0, none⟩) n cap) (xs.set j x) ∧ w.grownBy (w.setCell ⟨g, j, none⟩ (.int k x)) (some g) := by
  have hn : n = xs.length := by
    obtain ⟨oa, c, hv, _⟩ := h.shape
    cases hv; rfl
  subst hn
  have := World.ownsRow.stored h j (.int k x)
  unfold OwnI
  rw [List.length_set, List.map_set]
  exact this
theorem OwnI.lt (h : OwnI w B E k v xs) : ∀ g, v.ownBlock = some g → B ≤ g ∧ g < w.heap.size := World.ownsRow.lt h
theorem OwnI.kept {row : Option Nat} (h : OwnI w B E k v xs) (hg : w.grownBy w' row) (hne : v.ownBlock = none ∨ v.ownBlock ≠ row) : OwnI w' B E k v xs :=
  World.ownsRow.kept h hg hne
theorem OwnI.alloc (h : OwnI w B E k v xs) (o : Obj) : OwnI (w.alloc o) B E k v xs := World.ownsRow.alloc h o
theorem OwnI.drew (h : OwnI w B E k v xs) : OwnI w.drew B E k v xs := h
theorem OwnI.drewN (h : OwnI w B E k v xs) (n : Nat) : OwnI (w.drewN n) B E k v xs := h
theorem OwnI.below (h : OwnI w B E k v xs) (hb : Below w.heap.size w w') : OwnI w' B E k v xs :=
  World.ownsRow.kept h (row := none) ⟨hb.os, hb.tape, hb.output, hb.size, fun i hi _ => hb.block i hi⟩ (by cases v.ownBlock <;> simp)
theorem OwnI.nil (w : World) (B : Nat) (E : TypeId) (k : IntKind) : OwnI w B E k (.slice none 0 0) [] := World.ownsRow_nil w B E 1
theorem OwnI.mono {B' : Nat} (h : OwnI w B E k v xs) (hB : B' ≤ B) : OwnI w B' E k v xs := by
  refine ⟨h.1, ?_⟩
  rcases h.2 with h2 | ⟨g, cap, cur, a, b, c⟩
  · exact .inl h2
  · exact .inr ⟨g, cap, cur, a, Nat.le_trans hB b, c⟩
theorem OwnI.made {n : Nat} {v : Value} (h : w.ownsRow B E 1 v n (madeCells #[.int k 0] n).toList) : OwnI w B E k v (List.replicate n 0) := by
  unfold OwnI
  rw [toList_madeCells_one] at h
  simpa using h
/-- cut at a shorter length -/
theorem OwnI.cut {oa : Option Addr} {n cap : Nat} (h : OwnI w B E k (.slice oa n cap) xs) (m : Nat) (hm : m ≤ xs.length) (hs : oa = none → m = 0) : OwnI w B E k (.slice oa m cap) (xs.take m) := by
  rcases h.2 with ⟨hv, hn⟩ | ⟨g, c, cur, hv, hb, hg, hle, hcm, hsz, htk⟩
  · cases hv
    have : m = 0 := hs rfl
    subst this
    simpa using OwnI.nil w B E k
  · cases hv
    have hl : (xs.take m).length = m := by rw [List.length_take]; omega
    refine ⟨by simp, .inr ⟨g, cap, cur, by rw [hl], hb, hg, by omega, hcm, hsz, ?_⟩⟩
    rw [hl, Nat.mul_one, List.map_take, ← htk, Nat.mul_one, List.take_take, Nat.min_eq_left hm]
end

/-- 'l = append(l, x)', l a slice of numbers of the call's own: the one element lies in a block just made. -/
theorem append1I {P : Program} (W : World) {ops : Array Oper} {rest : List Oper} {o : Oper} {a : Act} {Q : Exit → Act → World → Prop} (hgd : o.guard = none) (s x : Operand) (t : TypeId)
    (ho : o.op = .call { callee := .builtin .append, args := #[s, x], argTypes := #[t, t] })
    (B : Nat) (E : TypeId) (k : IntKind) (bytes : Nat) (hinfo : (P.info? E).map (fun i => (i.zero, i.size, i.bytes)) = some (some (.int k 0), 1, bytes)) (ht : P.underlying t = some (.slice E))
    (v : Value) (xs : List Int) (hown : OwnI W B E k v xs) (hs : a.eval s = v) (E' : TypeId) (z n : Int) (hz : z = n) (hx : a.eval x = .slice (some ⟨W.heap.size, 0, none⟩) 1 1)
    (hlen : xs.length + 1 ≤ 4294967296) (hb : bytes ≤ 8) (hB : B ≤ W.heap.size)
    (h : ∀ v' w', OwnI w' B E k v' (xs ++ [n]) → (W.alloc (.cells #[.int k z] E')).grownBy w' v.ownBlock → wpList P ops Q rest (a.put o.dst v') w') :
    wpList P ops Q (o :: rest) a (W.alloc (.cells #[.int k z] E')) := by
  obtain ⟨i, hi, h0, h1, h2⟩ := info_parts hinfo
  subst hz
  refine wpList_append_own _ hgd s x t ho B E i (.int k 0) 1 bytes ht hi h0 h1 h2 rfl (by decide) v xs.length _ hs (hown.alloc _) ⟨W.heap.size, 0, none⟩ 1 1 [.int k z] hx rfl (cell_one_new _ _ _) ?_ ?_ ?_ ?_ ?_
  · intro u hu; simp at hu; subst hu; rfl
  · unfold maxLen; omega
  · have : (xs.length + 1) * bytes ≤ 4294967296 * 8 := Nat.mul_le_mul hlen hb
    omega
  · simp; omega
  · intro v' w' h3 h4 _
    refine h v' w' ?_ h4
    unfold OwnI
    simpa using h3
theorem grown_belowI {B : Nat} {a W w' : World} {E' : TypeId} {u v : Value} {xs : List Int} {E : TypeId} {k : IntKind} (h : Below B a W) (hown : OwnI W B E k v xs) (hg : (W.alloc (.cells #[u] E')).grownBy w' v.ownBlock) (hB : B ≤ W.heap.size) : Below B a w' :=
  (h.alloc hB _).grown hg (by simp; omega) fun i hi => (hown.lt i hi).1
theorem OwnI.kept2 {w' W : World} {B : Nat} {E : TypeId} {k : IntKind} {v u : Value} {xs : List Int} {E' : TypeId} {z : Value} (h : OwnI W B E k v xs) (hg : (W.alloc (.cells #[z] E')).grownBy w' u.ownBlock) (hne : v.ownBlock = none ∨ v.ownBlock ≠ u.ownBlock) : OwnI w' B E k v xs :=
  (h.alloc _).kept hg hne

theorem OwnI.at {w : World} {B : Nat} {E : TypeId} {k : IntKind} {oa : Option Addr} {n cap : Nat} {xs : List Int} (h : OwnI w B E k (.slice oa n cap) xs) (hx : 0 < xs.length) : ∃ g, oa = some ⟨g, 0, none⟩ ∧ B ≤ g ∧ g < w.heap.size := by
  rcases h.2 with ⟨hv, hn⟩ | ⟨g, c, cur, hv, hb, hg, hle, hcm, hsz, htk⟩
  · omega
  · cases hv
    exact ⟨g, rfl, hb, (Array.getElem?_eq_some_iff.1 hg).1⟩
theorem OwnI.len {w : World} {B : Nat} {E : TypeId} {k : IntKind} {oa : Option Addr} {n cap : Nat} {xs : List Int} (h : OwnI w B E k (.slice oa n cap) xs) : n = xs.length := by
  obtain ⟨_, _, hv, _⟩ := h.shape
  cases hv; rfl

end Go.Proofs.Ytmcejefeloljiaa

/-
  The walks of the reference for naturals: Natural, Check, both, short, less, Compare.
-/
namespace Go.Proofs.Ytmcejefeloljiaa
open Go.RowKit Nm

set_option maxHeartbeats 400000 in
theorem rNatural_any (s : ByteArray) (w : World) :
    Calls Try.prog 118 #[.string s] w fun e w' => e = .returned (.bool (isN s)) ∧ w = w' := by
  by_cases h0 : 0 < s.size
  · have h1 : s.toList.isEmpty = false := isEmpty_false h0
    go_enter Try.func118, Try.ntmps118
    go_wp2
    go_ret
    exact ⟨ret_bool (isN_pos h0).symm, rfl⟩
  · have h1 : s.toList.isEmpty = true := isEmpty_true h0
    go_enter Try.func118, Try.ntmps118
    go_wp2
    go_ret
    exact ⟨ret_bool (isN_nil h0).symm, rfl⟩

theorem chk1_no {s : ByteArray} (h : isN s = false) : chkN [s] = 60 := by simp [chkN, h]
theorem chk1_big {s : ByteArray} (h : isN s = true) (h2 : 256 < s.size) : chkN [s] = 2 := by simp [chkN, h]; omega
theorem chk1_ok {s : ByteArray} (h : isN s = true) (h2 : s.size ≤ 256) : chkN [s] = 0 := by simp [chkN, h]; omega
theorem chk2_no {a b : ByteArray} (h : isN a = false ∨ isN b = false) : chkN [a, b] = 60 := by rcases h with h | h <;> simp [chkN, h]
theorem chk2_big {a b : ByteArray} (h : isN a = true) (h' : isN b = true) (h2 : 256 < a.size ∨ 256 < b.size) : chkN [a, b] = 2 := by simp [chkN, h, h']; omega

set_option maxHeartbeats 400000 in
theorem rCheck_any (s : ByteArray) (w : World) (hs : s.size ≤ maxLen) :
    Calls Try.prog 61 #[.string s] w fun e w' => e = .returned (.int .i64 (chkN [s])) ∧ w = w' := by
  have hN := fun w => rNatural_any s w
  by_cases hn : isN s = true
  · by_cases h2 : s.size ≤ 256
    · rw [chk1_ok hn h2]
      rw [hn] at hN
      have HN := Lib.hid hN
      clear hn hN
      go_enter Try.func61, Try.ntmps61
      go_wp2_with fail
      refine (HN.out _).mono ?_
      rintro e w1 ⟨rfl, rfl⟩
      go_wp2_with fail
      go_ret
      exact ⟨rfl, rfl⟩
    · have h2 : 256 < s.size := by omega
      rw [chk1_big hn h2]
      rw [hn] at hN
      have HN := Lib.hid hN
      clear hn hN
      go_enter Try.func61, Try.ntmps61
      go_wp2_with fail
      refine (HN.out _).mono ?_
      rintro e w1 ⟨rfl, rfl⟩
      go_wp2_with fail
      go_ret
      exact ⟨rfl, rfl⟩
  · have hn : isN s = false := by simpa using hn
    rw [chk1_no hn]
    rw [hn] at hN
    have HN := Lib.hid hN
    clear hn hN
    go_enter Try.func61, Try.ntmps61
    go_wp2_with fail
    refine (HN.out _).mono ?_
    rintro e w1 ⟨rfl, rfl⟩
    go_wp2_with fail
    go_ret
    exact ⟨rfl, rfl⟩

-- GEN
set_option maxHeartbeats 400000 in
theorem both_1 (a b : ByteArray) (w : World) (ha : isN a = false) :
    Calls Try.prog 110 #[.string a, .string b] w fun e w' => e = .returned (.int .i64 60) ∧ w = w' := by
  have Ha := Lib.hid (fun w => by have h_ := rNatural_any a w; rw [ha] at h_; exact h_)
  clear ha
  go_enter Try.func110, Try.ntmps110
  go_wp2_with fail
  refine (Ha.out _).mono ?_
  rintro e w1 ⟨rfl, rfl⟩
  go_wp2_with fail
  go_ret
  exact ⟨rfl, rfl⟩

set_option maxHeartbeats 400000 in
theorem both_2 (a b : ByteArray) (w : World) (ha : isN a = true) (hb : isN b = false) :
    Calls Try.prog 110 #[.string a, .string b] w fun e w' => e = .returned (.int .i64 60) ∧ w = w' := by
  have Ha := Lib.hid (fun w => by have h_ := rNatural_any a w; rw [ha] at h_; exact h_)
  clear ha
  have Hb := Lib.hid (fun w => by have h_ := rNatural_any b w; rw [hb] at h_; exact h_)
  clear hb
  go_enter Try.func110, Try.ntmps110
  go_wp2_with fail
  refine (Ha.out _).mono ?_
  rintro e w1 ⟨rfl, rfl⟩
  go_wp2_with fail
  refine (Hb.out _).mono ?_
  rintro e w1 ⟨rfl, rfl⟩
  go_wp2_with fail
  go_ret
  exact ⟨rfl, rfl⟩

set_option maxHeartbeats 400000 in
theorem both_3 (a b : ByteArray) (w : World) (ha : isN a = true) (hb : isN b = true) (h1 : 256 < a.size) :
    Calls Try.prog 110 #[.string a, .string b] w fun e w' => e = .returned (.int .i64 2) ∧ w = w' := by
  have Ha := Lib.hid (fun w => by have h_ := rNatural_any a w; rw [ha] at h_; exact h_)
  clear ha
  have Hb := Lib.hid (fun w => by have h_ := rNatural_any b w; rw [hb] at h_; exact h_)
  clear hb
  go_enter Try.func110, Try.ntmps110
  go_wp2_with fail
  refine (Ha.out _).mono ?_
  rintro e w1 ⟨rfl, rfl⟩
  go_wp2_with fail
  refine (Hb.out _).mono ?_
  rintro e w1 ⟨rfl, rfl⟩
  go_wp2_with fail
  go_ret
  exact ⟨rfl, rfl⟩

set_option maxHeartbeats 400000 in
theorem both_4 (a b : ByteArray) (w : World) (ha : isN a = true) (hb : isN b = true) (h1 : a.size ≤ 256) (h2 : 256 < b.size) :
    Calls Try.prog 110 #[.string a, .string b] w fun e w' => e = .returned (.int .i64 2) ∧ w = w' := by
  have Ha := Lib.hid (fun w => by have h_ := rNatural_any a w; rw [ha] at h_; exact h_)
  clear ha
  have Hb := Lib.hid (fun w => by have h_ := rNatural_any b w; rw [hb] at h_; exact h_)
  clear hb
  go_enter Try.func110, Try.ntmps110
  go_wp2_with fail
  refine (Ha.out _).mono ?_
  rintro e w1 ⟨rfl, rfl⟩
  go_wp2_with fail
  refine (Hb.out _).mono ?_
  rintro e w1 ⟨rfl, rfl⟩
  go_wp2_with fail
  go_ret
  exact ⟨rfl, rfl⟩

set_option maxHeartbeats 400000 in
theorem both_5 (a b : ByteArray) (w : World) (ha : isN a = true) (hb : isN b = true) (h1 : a.size ≤ 256) (h2 : b.size ≤ 256) :
    Calls Try.prog 110 #[.string a, .string b] w fun e w' => e = .returned (.int .i64 0) ∧ w = w' := by
  have Ha := Lib.hid (fun w => by have h_ := rNatural_any a w; rw [ha] at h_; exact h_)
  clear ha
  have Hb := Lib.hid (fun w => by have h_ := rNatural_any b w; rw [hb] at h_; exact h_)
  clear hb
  go_enter Try.func110, Try.ntmps110
  go_wp2_with fail
  refine (Ha.out _).mono ?_
  rintro e w1 ⟨rfl, rfl⟩
  go_wp2_with fail
  refine (Hb.out _).mono ?_
  rintro e w1 ⟨rfl, rfl⟩
  go_wp2_with fail
  go_ret
  exact ⟨rfl, rfl⟩

theorem both_any (a b : ByteArray) (w : World) :
    Calls Try.prog 110 #[.string a, .string b] w fun e w' => e = .returned (.int .i64 (chkN [a, b])) ∧ w = w' := by
  by_cases ha : isN a = true
  · by_cases hb : isN b = true
    · by_cases h1 : a.size ≤ 256
      · by_cases h2 : b.size ≤ 256
        · rw [chk2_of ha hb h1 h2]; exact both_5 a b w ha hb h1 h2
        · rw [chk2_big ha hb (by omega)]; exact both_4 a b w ha hb h1 (by omega)
      · rw [chk2_big ha hb (by omega)]; exact both_3 a b w ha hb (by omega)
    · rw [chk2_no (by simp [hb])]; exact both_2 a b w ha (by simpa using hb)
  · rw [chk2_no (by simp [ha])]; exact both_1 a b w (by simpa using ha)

set_option maxHeartbeats 400000 in
theorem rshort_a (s : ByteArray) (w : World) (h : s.size ≤ 256) :
    Calls Try.prog 114 #[.string s] w fun e w' => e = .returned (.tuple #[.string (s, 0).1, .int .i64 (s, 0).2]) ∧ w = w' := by
  go_enter Try.func114, Try.ntmps114
  go_wp2_with fail
  go_ret2
  exact ⟨rfl, rfl⟩

set_option maxHeartbeats 400000 in
theorem rshort_b (s : ByteArray) (w : World) (h : 256 < s.size) :
    Calls Try.prog 114 #[.string s] w fun e w' => e = .returned (.tuple #[.string (bE, 2).1, .int .i64 (bE, 2).2]) ∧ w = w' := by
  go_enter Try.func114, Try.ntmps114
  go_wp2_with fail
  go_ret2
  exact ⟨rfl, rfl⟩

theorem rshort_any (n : Nat) (w : World) :
    Calls Try.prog 114 #[.string (encS n)] w fun e w' => e = .returned (.tuple #[.string (shortN n).1, .int .i64 (shortN n).2]) ∧ w = w' := by
  by_cases h : (encS n).size ≤ 256
  · rw [show shortN n = (encS n, 0) from if_pos h]; exact rshort_a _ w h
  · rw [show shortN n = (bE, 2) from if_neg h]; exact rshort_b _ w (by omega)

theorem drewN2 (w : World) (a b : Nat) : (w.drewN a).drewN b = w.drewN (a + b) := by unfold World.drewN; simp only [Nat.add_assoc]
theorem nv_lt_of_size {a b : ByteArray} (hb : isN b = true) (h : a.size < b.size) : nv a < nv b := by
  have h1 : nv a < 256 ^ a.size := by
    have := val_lt a.data.toList
    rw [sdata_length] at this
    exact this
  have h2 : (enc (nv b)).length = b.size := by
    have := congrArg ByteArray.size (encS_nv b hb)
    rw [size_encS] at this
    exact this
  apply Decidable.byContradiction
  intro hc
  have h3 := (enc_length_le (nv b) a.size).2 (by omega)
  omega
theorem nv_lt_of_byte {a b : ByteArray} (hs : a.size = b.size) (k : Nat) (ha : k < a.size) (hb : k < b.size) (ht : a.data.toList.take k = b.data.toList.take k) (h : a[k].toNat < b[k].toNat) : nv a < nv b := by
  have la := sdata_length a
  have lb := sdata_length b
  have e1 : a.data.toList = a.data.toList.take k ++ a[k] :: a.data.toList.drop (k + 1) := by
    conv => lhs; rw [← List.take_append_drop k a.data.toList, List.drop_eq_getElem_cons (by omega)]
    rfl
  have e2 : b.data.toList = b.data.toList.take k ++ b[k] :: b.data.toList.drop (k + 1) := by
    conv => lhs; rw [← List.take_append_drop k b.data.toList, List.drop_eq_getElem_cons (by omega)]
    rfl
  show val a.data.toList < val b.data.toList
  rw [e1, e2, ht]
  exact val_lt_of_digit _ _ _ _ _ (by rw [List.length_drop, List.length_drop]; omega) h
theorem take_same {a b : ByteArray} (k : Nat) (ha : k < a.size) (hb : k < b.size) (ht : a.data.toList.take k = b.data.toList.take k) (h : (a[k].toNat : Int) = (b[k].toNat : Int)) : a.data.toList.take (k + 1) = b.data.toList.take (k + 1) := by
  have la := sdata_length a
  have lb := sdata_length b
  rw [List.take_succ_eq_append_getElem (by omega), List.take_succ_eq_append_getElem (by omega), ht]
  congr 2
  show a[k] = b[k]
  exact UInt8.toNat_inj.1 (by omega)

set_option maxHeartbeats 1000000 in
theorem less_ref (a b : ByteArray) (w : World) (ha : isN a = true) (hb : isN b = true) (hsa : a.size ≤ maxLen) (hsb : b.size ≤ maxLen) :
    Calls Try.prog 121 #[.string a, .string b] w fun e w' => e = .returned (.bool (decide (nv a < nv b))) ∧ ∃ k, w' = w.drewN k := by
  unfold maxLen at hsa hsb
  by_cases hs : a.size = b.size
  · have HS := Lib.hid hs
    have i1 : a.size ≤ b.size := by omega
    have i2 : b.size ≤ a.size := by omega
    clear hs ha hb
    go_enter Try.func121, Try.ntmps121
    go_wp2_with fail
    go_loopw [5] (fun i wr => ∃ k : Nat, k ≤ a.size ∧ i = .int .i64 (k : Int) ∧ a.data.toList.take k = b.data.toList.take k ∧ ∃ nq, wr = w.drewN nq) (fun i _ => a.size - (intOf i).toNat)
    case atStart => exact ⟨0, Nat.zero_le _, rfl, rfl, 0, rfl⟩
    case round =>
      obtain ⟨k, hk, rfl, ht, nq, rfl⟩ := hrel
      have HT := Lib.hid ht; clear ht
      by_cases h0 : k < a.size
      · have h0b : k < b.size := by omega
        by_cases h1 : a[k].toNat < b[k].toNat
        · go_wp2_with fail
          go_quiet (fail)
          go_wp2_with fail
          go_quiet (fail)
          go_wp2_with fail
          go_wp2_with fail
          go_ret
          exact ⟨ret_bool (decide_eq_true (nv_lt_of_byte HS.out k h0 h0b HT.out h1)).symm, _, by rw [drewN2, drewN2]⟩
        · by_cases h2 : b[k].toNat < a[k].toNat
          · go_wp2_with fail
            go_quiet (fail)
            go_wp2_with fail
            go_quiet (fail)
            go_wp2_with fail
            go_wp2_with fail
            go_ret
            exact ⟨ret_bool (decide_eq_false (Nat.lt_asymm (nv_lt_of_byte HS.out.symm k h0b h0 HT.out.symm h2))).symm, _, by rw [drewN2, drewN2]⟩
          · go_wp2_with fail
            go_quiet (fail)
            go_wp2_with fail
            go_roundw
            case rel => exact ⟨k + 1, by omega, by go_num, take_same k h0 h0b HT.out (by omega), _, rfl⟩
            case measure => simp [intOf]; omega
      · go_wp2_with fail
        go_ret
        have e : a.data.toList = b.data.toList := by
          have h := HT.out
          have la := sdata_length a
          have lb := sdata_length b
          rw [List.take_of_length_le (by omega), List.take_of_length_le (by omega)] at h
          exact h
        exact ⟨ret_bool (decide_eq_false (by show ¬ val a.data.toList < val b.data.toList; rw [e]; omega)).symm, nq, rfl⟩
  · by_cases h1 : a.size < b.size
    · have hl := Lib.hid (nv_lt_of_size hb h1)
      clear hs ha hb
      go_enter Try.func121, Try.ntmps121
      go_wp2_with fail
      go_ret
      exact ⟨ret_bool (by rw [decide_eq_true hl.out]), 0, rfl⟩
    · have h1 : b.size < a.size := by omega
      have hl := Lib.hid (nv_lt_of_size ha h1)
      clear hs ha hb
      go_enter Try.func121, Try.ntmps121
      go_wp2_with fail
      go_ret
      exact ⟨ret_bool (by rw [decide_eq_false (Nat.lt_asymm hl.out)]), 0, rfl⟩

end Go.Proofs.Ytmcejefeloljiaa

