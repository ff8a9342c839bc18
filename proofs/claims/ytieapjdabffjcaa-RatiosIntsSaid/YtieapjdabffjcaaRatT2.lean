/-
  What the symbolic executor shows of the functions of package ratios.
-/
import Derived.Test.YtieapjdabffjcaaRatK
namespace Go.Proofs.Ytieapjdabffjcaa
open Go.RowKit Nm Go.SX

set_option maxRecDepth 100000 in
theorem T_new (n d : Int) : sxEnd Try.prog Rd.no ratCon.p 40 12 [.int .i64 n, .int .i64 d] =
    bif d == 0 then
      some
        (Ending.returned
          (Value.tuple
            {
              toList :=
                [Value.agg { toList := [Value.bool false, Value.string (bs []), Value.string (bs [])] },
                  Value.int IntKind.i64 71] }))
    else
      bif inI n then
        bif inI d then
          bif szB (encS n.natAbs) && szB (encS d.natAbs) then
            bif (overO { neg := !decide (n < 0) == decide (d < 0), n := encS n.natAbs } (encS d.natAbs)).isSome then
              some
                (Ending.returned
                  (Value.tuple
                    {
                      toList :=
                        [Value.agg
                            {
                              toList :=
                                [Value.bool
                                    ((overO { neg := !decide (n < 0) == decide (d < 0), n := encS n.natAbs }
                                            (encS d.natAbs)).getD
                                        zR).neg,
                                  Value.string
                                    ((overO { neg := !decide (n < 0) == decide (d < 0), n := encS n.natAbs }
                                            (encS d.natAbs)).getD
                                        zR).n,
                                  Value.string
                                    ((overO { neg := !decide (n < 0) == decide (d < 0), n := encS n.natAbs }
                                            (encS d.natAbs)).getD
                                        zR).d] },
                          Value.int IntKind.i64 0] }))
            else
              some
                (Ending.panicked
                  [{ v := Value.iface 90 (Value.agg { toList := [Value.int IntKind.i64 2] }), recovered := false }])
          else none
        else none
      else none := by kernel_rfl

set_option maxRecDepth 100000 in
theorem T_add (n m : Bool) (a b c d : ByteArray) : sxEnd Try.prog Rd.no ratCon.p 40 22 [.agg #[.bool n, .string a, .string b], .agg #[.bool m, .string c, .string d]] =
    bif szB a && szB b then
      bif checkR { neg := n, n := a, d := b } != 0 then
        bif checkR { neg := n, n := a, d := b } != 0 then
          some
            (Ending.returned
              (Value.tuple
                {
                  toList :=
                    [Value.agg { toList := [Value.bool false, Value.string (bs []), Value.string (bs [])] },
                      Value.int IntKind.i64 (checkR { neg := n, n := a, d := b })] }))
        else
          some
            (Ending.returned
              (Value.tuple
                {
                  toList :=
                    [Value.agg { toList := [Value.bool false, Value.string (bs []), Value.string (bs [])] },
                      Value.int IntKind.i64 (checkR { neg := n, n := a, d := b })] }))
      else
        bif szB c && szB d then
          bif checkR { neg := m, n := c, d := d } != 0 then
            bif checkR { neg := m, n := c, d := d } != 0 then
              some
                (Ending.returned
                  (Value.tuple
                    {
                      toList :=
                        [Value.agg
                            { toList := [Value.bool false, Value.string (bs []), Value.string (bs [])] },
                          Value.int IntKind.i64 (checkR { neg := m, n := c, d := d })] }))
            else
              some
                (Ending.returned
                  (Value.tuple
                    {
                      toList :=
                        [Value.agg
                            { toList := [Value.bool false, Value.string (bs []), Value.string (bs [])] },
                          Value.int IntKind.i64 (checkR { neg := m, n := c, d := d })] }))
          else
            bif szB b && szB d then
              bif (timesO b d).isSome then
                bif szB a && szB d then
                  bif (timesO a d).isSome then
                    bif szB c && szB b then
                      bif (timesO c b).isSome then
                        bif szB ((timesO a d).getD (bs [])) && szB ((timesO c b).getD (bs [])) then
                          bif
                              (saddO { neg := n, n := (timesO a d).getD (bs []) }
                                  { neg := m, n := (timesO c b).getD (bs []) }).isSome then
                            bif
                                szB
                                    ((saddO { neg := n, n := (timesO a d).getD (bs []) }
                                            { neg := m, n := (timesO c b).getD (bs []) }).getD
                                        { neg := false, n := (bs []) }).n &&
                                  szB ((timesO b d).getD (bs [])) then
                              bif
                                  (overO
                                      {
                                        neg :=
                                          ((saddO { neg := n, n := (timesO a d).getD (bs []) }
                                                  { neg := m, n := (timesO c b).getD (bs []) }).getD
                                              { neg := false, n := (bs []) }).neg,
                                        n :=
                                          ((saddO { neg := n, n := (timesO a d).getD (bs []) }
                                                  { neg := m, n := (timesO c b).getD (bs []) }).getD
                                              { neg := false, n := (bs []) }).n }
                                      ((timesO b d).getD (bs []))).isSome then
                                some
                                  (Ending.returned
                                    (Value.tuple
                                      {
                                        toList :=
                                          [Value.agg
                                              {
                                                toList :=
                                                  [Value.bool
                                                      ((overO
                                                              {
                                                                neg :=
                                                                  ((saddO
                                                                          { neg := n,
                                                                            n := (timesO a d).getD (bs []) }
                                                                          { neg := m,
                                                                            n := (timesO c b).getD (bs []) }).getD
                                                                      { neg := false, n := (bs []) }).neg,
                                                                n :=
                                                                  ((saddO
                                                                          { neg := n,
                                                                            n := (timesO a d).getD (bs []) }
                                                                          { neg := m,
                                                                            n := (timesO c b).getD (bs []) }).getD
                                                                      { neg := false, n := (bs []) }).n }
                                                              ((timesO b d).getD (bs []))).getD
                                                          zR).neg,
                                                    Value.string
                                                      ((overO
                                                              {
                                                                neg :=
                                                                  ((saddO
                                                                          { neg := n,
                                                                            n := (timesO a d).getD (bs []) }
                                                                          { neg := m,
                                                                            n := (timesO c b).getD (bs []) }).getD
                                                                      { neg := false, n := (bs []) }).neg,
                                                                n :=
                                                                  ((saddO
                                                                          { neg := n,
                                                                            n := (timesO a d).getD (bs []) }
                                                                          { neg := m,
                                                                            n := (timesO c b).getD (bs []) }).getD
                                                                      { neg := false, n := (bs []) }).n }
                                                              ((timesO b d).getD (bs []))).getD
                                                          zR).n,
                                                    Value.string
                                                      ((overO
                                                              {
                                                                neg :=
                                                                  ((saddO
                                                                          { neg := n,
                                                                            n := (timesO a d).getD (bs []) }
                                                                          { neg := m,
                                                                            n := (timesO c b).getD (bs []) }).getD
                                                                      { neg := false, n := (bs []) }).neg,
                                                                n :=
                                                                  ((saddO
                                                                          { neg := n,
                                                                            n := (timesO a d).getD (bs []) }
                                                                          { neg := m,
                                                                            n := (timesO c b).getD (bs []) }).getD
                                                                      { neg := false, n := (bs []) }).n }
                                                              ((timesO b d).getD (bs []))).getD
                                                          zR).d] },
                                            Value.int IntKind.i64 0] }))
                              else
                                some
                                  (Ending.returned
                                    (Value.tuple
                                      {
                                        toList :=
                                          [Value.agg
                                              {
                                                toList :=
                                                  [Value.bool false, Value.string (bs []),
                                                    Value.string (bs [])] },
                                            Value.int IntKind.i64 2] }))
                            else none
                          else
                            some
                              (Ending.returned
                                (Value.tuple
                                  {
                                    toList :=
                                      [Value.agg
                                          {
                                            toList :=
                                              [Value.bool false, Value.string (bs []),
                                                Value.string (bs [])] },
                                        Value.int IntKind.i64 2] }))
                        else none
                      else
                        some
                          (Ending.returned
                            (Value.tuple
                              {
                                toList :=
                                  [Value.agg
                                      {
                                        toList :=
                                          [Value.bool false, Value.string (bs []), Value.string (bs [])] },
                                    Value.int IntKind.i64 2] }))
                    else none
                  else
                    some
                      (Ending.returned
                        (Value.tuple
                          {
                            toList :=
                              [Value.agg
                                  {
                                    toList :=
                                      [Value.bool false, Value.string (bs []), Value.string (bs [])] },
                                Value.int IntKind.i64 2] }))
                else none
              else
                some
                  (Ending.returned
                    (Value.tuple
                      {
                        toList :=
                          [Value.agg
                              { toList := [Value.bool false, Value.string (bs []), Value.string (bs [])] },
                            Value.int IntKind.i64 2] }))
            else none
        else none
    else none := by kernel_rfl

set_option maxRecDepth 100000 in
theorem T_sub (n m : Bool) (a b c d : ByteArray) : sxEnd Try.prog Rd.no ratCon.p 40 24 [.agg #[.bool n, .string a, .string b], .agg #[.bool m, .string c, .string d]] =
    bif szB a && szB b then
      bif checkR { neg := n, n := a, d := b } != 0 then
        bif checkR { neg := n, n := a, d := b } != 0 then
          some
            (Ending.returned
              (Value.tuple
                {
                  toList :=
                    [Value.agg { toList := [Value.bool false, Value.string (bs []), Value.string (bs [])] },
                      Value.int IntKind.i64 (checkR { neg := n, n := a, d := b })] }))
        else
          some
            (Ending.returned
              (Value.tuple
                {
                  toList :=
                    [Value.agg { toList := [Value.bool false, Value.string (bs []), Value.string (bs [])] },
                      Value.int IntKind.i64 (checkR { neg := n, n := a, d := b })] }))
      else
        bif szB c && szB d then
          bif checkR { neg := m, n := c, d := d } != 0 then
            bif checkR { neg := m, n := c, d := d } != 0 then
              some
                (Ending.returned
                  (Value.tuple
                    {
                      toList :=
                        [Value.agg
                            { toList := [Value.bool false, Value.string (bs []), Value.string (bs [])] },
                          Value.int IntKind.i64 (checkR { neg := m, n := c, d := d })] }))
            else
              some
                (Ending.returned
                  (Value.tuple
                    {
                      toList :=
                        [Value.agg
                            { toList := [Value.bool false, Value.string (bs []), Value.string (bs [])] },
                          Value.int IntKind.i64 (checkR { neg := m, n := c, d := d })] }))
          else
            bif !m then
              bif szB b && szB d then
                bif (timesO b d).isSome then
                  bif szB a && szB d then
                    bif (timesO a d).isSome then
                      bif szB c && szB b then
                        bif (timesO c b).isSome then
                          bif szB ((timesO a d).getD (bs [])) && szB ((timesO c b).getD (bs [])) then
                            bif
                                (saddO { neg := n, n := (timesO a d).getD (bs []) }
                                    { neg := !c.toList == (bs []).toList,
                                      n := (timesO c b).getD (bs []) }).isSome then
                              bif
                                  szB
                                      ((saddO { neg := n, n := (timesO a d).getD (bs []) }
                                              { neg := !c.toList == (bs []).toList,
                                                n := (timesO c b).getD (bs []) }).getD
                                          { neg := false, n := (bs []) }).n &&
                                    szB ((timesO b d).getD (bs [])) then
                                bif
                                    (overO
                                        {
                                          neg :=
                                            ((saddO { neg := n, n := (timesO a d).getD (bs []) }
                                                    { neg := !c.toList == (bs []).toList,
                                                      n := (timesO c b).getD (bs []) }).getD
                                                { neg := false, n := (bs []) }).neg,
                                          n :=
                                            ((saddO { neg := n, n := (timesO a d).getD (bs []) }
                                                    { neg := !c.toList == (bs []).toList,
                                                      n := (timesO c b).getD (bs []) }).getD
                                                { neg := false, n := (bs []) }).n }
                                        ((timesO b d).getD (bs []))).isSome then
                                  some
                                    (Ending.returned
                                      (Value.tuple
                                        {
                                          toList :=
                                            [Value.agg
                                                {
                                                  toList :=
                                                    [Value.bool
                                                        ((overO
                                                                {
                                                                  neg :=
                                                                    ((saddO
                                                                            { neg := n,
                                                                              n := (timesO a d).getD (bs []) }
                                                                            { neg := !c.toList == (bs []).toList,
                                                                              n := (timesO c b).getD (bs []) }).getD
                                                                        { neg := false, n := (bs []) }).neg,
                                                                  n :=
                                                                    ((saddO
                                                                            { neg := n,
                                                                              n := (timesO a d).getD (bs []) }
                                                                            { neg := !c.toList == (bs []).toList,
                                                                              n := (timesO c b).getD (bs []) }).getD
                                                                        { neg := false, n := (bs []) }).n }
                                                                ((timesO b d).getD (bs []))).getD
                                                            zR).neg,
                                                      Value.string
                                                        ((overO
                                                                {
                                                                  neg :=
                                                                    ((saddO
                                                                            { neg := n,
                                                                              n := (timesO a d).getD (bs []) }
                                                                            {
                                                                              neg :=
                                                                                bif true then
                                                                                  !c.toList == (bs []).toList
                                                                                else false,
                                                                              n := (timesO c b).getD (bs []) }).getD
                                                                        { neg := false, n := (bs []) }).neg,
                                                                  n :=
                                                                    ((saddO
                                                                            { neg := n,
                                                                              n := (timesO a d).getD (bs []) }
                                                                            {
                                                                              neg :=
                                                                                bif true then
                                                                                  !c.toList == (bs []).toList
                                                                                else false,
                                                                              n := (timesO c b).getD (bs []) }).getD
                                                                        { neg := false, n := (bs []) }).n }
                                                                ((timesO b d).getD (bs []))).getD
                                                            zR).n,
                                                      Value.string
                                                        ((overO
                                                                {
                                                                  neg :=
                                                                    ((saddO
                                                                            { neg := n,
                                                                              n := (timesO a d).getD (bs []) }
                                                                            {
                                                                              neg :=
                                                                                bif true then
                                                                                  !c.toList == (bs []).toList
                                                                                else false,
                                                                              n := (timesO c b).getD (bs []) }).getD
                                                                        { neg := false, n := (bs []) }).neg,
                                                                  n :=
                                                                    ((saddO
                                                                            { neg := n,
                                                                              n := (timesO a d).getD (bs []) }
                                                                            {
                                                                              neg :=
                                                                                bif true then
                                                                                  !c.toList == (bs []).toList
                                                                                else false,
                                                                              n := (timesO c b).getD (bs []) }).getD
                                                                        { neg := false, n := (bs []) }).n }
                                                                ((timesO b d).getD (bs []))).getD
                                                            zR).d] },
                                              Value.int IntKind.i64 0] }))
                                else
                                  some
                                    (Ending.returned
                                      (Value.tuple
                                        {
                                          toList :=
                                            [Value.agg
                                                {
                                                  toList :=
                                                    [Value.bool false, Value.string (bs []),
                                                      Value.string (bs [])] },
                                              Value.int IntKind.i64 2] }))
                              else none
                            else
                              some
                                (Ending.returned
                                  (Value.tuple
                                    {
                                      toList :=
                                        [Value.agg
                                            {
                                              toList :=
                                                [Value.bool false, Value.string (bs []),
                                                  Value.string (bs [])] },
                                          Value.int IntKind.i64 2] }))
                          else none
                        else
                          some
                            (Ending.returned
                              (Value.tuple
                                {
                                  toList :=
                                    [Value.agg
                                        {
                                          toList :=
                                            [Value.bool false, Value.string (bs []),
                                              Value.string (bs [])] },
                                      Value.int IntKind.i64 2] }))
                      else none
                    else
                      some
                        (Ending.returned
                          (Value.tuple
                            {
                              toList :=
                                [Value.agg
                                    {
                                      toList :=
                                        [Value.bool false, Value.string (bs []), Value.string (bs [])] },
                                  Value.int IntKind.i64 2] }))
                  else none
                else
                  some
                    (Ending.returned
                      (Value.tuple
                        {
                          toList :=
                            [Value.agg
                                {
                                  toList :=
                                    [Value.bool false, Value.string (bs []), Value.string (bs [])] },
                              Value.int IntKind.i64 2] }))
              else none
            else
              bif szB b && szB d then
                bif (timesO b d).isSome then
                  bif szB a && szB d then
                    bif (timesO a d).isSome then
                      bif szB c && szB b then
                        bif (timesO c b).isSome then
                          bif szB ((timesO a d).getD (bs [])) && szB ((timesO c b).getD (bs [])) then
                            bif
                                (saddO { neg := n, n := (timesO a d).getD (bs []) }
                                    { neg := false, n := (timesO c b).getD (bs []) }).isSome then
                              bif
                                  szB
                                      ((saddO { neg := n, n := (timesO a d).getD (bs []) }
                                              { neg := false, n := (timesO c b).getD (bs []) }).getD
                                          { neg := false, n := (bs []) }).n &&
                                    szB ((timesO b d).getD (bs [])) then
                                bif
                                    (overO
                                        {
                                          neg :=
                                            ((saddO { neg := n, n := (timesO a d).getD (bs []) }
                                                    { neg := false, n := (timesO c b).getD (bs []) }).getD
                                                { neg := false, n := (bs []) }).neg,
                                          n :=
                                            ((saddO { neg := n, n := (timesO a d).getD (bs []) }
                                                    { neg := false, n := (timesO c b).getD (bs []) }).getD
                                                { neg := false, n := (bs []) }).n }
                                        ((timesO b d).getD (bs []))).isSome then
                                  some
                                    (Ending.returned
                                      (Value.tuple
                                        {
                                          toList :=
                                            [Value.agg
                                                {
                                                  toList :=
                                                    [Value.bool
                                                        ((overO
                                                                {
                                                                  neg :=
                                                                    ((saddO
                                                                            { neg := n,
                                                                              n := (timesO a d).getD (bs []) }
                                                                            { neg := false,
                                                                              n := (timesO c b).getD (bs []) }).getD
                                                                        { neg := false, n := (bs []) }).neg,
                                                                  n :=
                                                                    ((saddO
                                                                            { neg := n,
                                                                              n := (timesO a d).getD (bs []) }
                                                                            { neg := false,
                                                                              n := (timesO c b).getD (bs []) }).getD
                                                                        { neg := false, n := (bs []) }).n }
                                                                ((timesO b d).getD (bs []))).getD
                                                            zR).neg,
                                                      Value.string
                                                        ((overO
                                                                {
                                                                  neg :=
                                                                    ((saddO
                                                                            { neg := n,
                                                                              n := (timesO a d).getD (bs []) }
                                                                            { neg := false,
                                                                              n := (timesO c b).getD (bs []) }).getD
                                                                        { neg := false, n := (bs []) }).neg,
                                                                  n :=
                                                                    ((saddO
                                                                            { neg := n,
                                                                              n := (timesO a d).getD (bs []) }
                                                                            { neg := false,
                                                                              n := (timesO c b).getD (bs []) }).getD
                                                                        { neg := false, n := (bs []) }).n }
                                                                ((timesO b d).getD (bs []))).getD
                                                            zR).n,
                                                      Value.string
                                                        ((overO
                                                                {
                                                                  neg :=
                                                                    ((saddO
                                                                            { neg := n,
                                                                              n := (timesO a d).getD (bs []) }
                                                                            { neg := false,
                                                                              n := (timesO c b).getD (bs []) }).getD
                                                                        { neg := false, n := (bs []) }).neg,
                                                                  n :=
                                                                    ((saddO
                                                                            { neg := n,
                                                                              n := (timesO a d).getD (bs []) }
                                                                            { neg := false,
                                                                              n := (timesO c b).getD (bs []) }).getD
                                                                        { neg := false, n := (bs []) }).n }
                                                                ((timesO b d).getD (bs []))).getD
                                                            zR).d] },
                                              Value.int IntKind.i64 0] }))
                                else
                                  some
                                    (Ending.returned
                                      (Value.tuple
                                        {
                                          toList :=
                                            [Value.agg
                                                {
                                                  toList :=
                                                    [Value.bool false, Value.string (bs []),
                                                      Value.string (bs [])] },
                                              Value.int IntKind.i64 2] }))
                              else none
                            else
                              some
                                (Ending.returned
                                  (Value.tuple
                                    {
                                      toList :=
                                        [Value.agg
                                            {
                                              toList :=
                                                [Value.bool false, Value.string (bs []),
                                                  Value.string (bs [])] },
                                          Value.int IntKind.i64 2] }))
                          else none
                        else
                          some
                            (Ending.returned
                              (Value.tuple
                                {
                                  toList :=
                                    [Value.agg
                                        {
                                          toList :=
                                            [Value.bool false, Value.string (bs []),
                                              Value.string (bs [])] },
                                      Value.int IntKind.i64 2] }))
                      else none
                    else
                      some
                        (Ending.returned
                          (Value.tuple
                            {
                              toList :=
                                [Value.agg
                                    {
                                      toList :=
                                        [Value.bool false, Value.string (bs []), Value.string (bs [])] },
                                  Value.int IntKind.i64 2] }))
                  else none
                else
                  some
                    (Ending.returned
                      (Value.tuple
                        {
                          toList :=
                            [Value.agg
                                {
                                  toList :=
                                    [Value.bool false, Value.string (bs []), Value.string (bs [])] },
                              Value.int IntKind.i64 2] }))
              else none
        else none
    else none := by kernel_rfl

set_option maxRecDepth 100000 in
theorem T_mul (n m : Bool) (a b c d : ByteArray) : sxEnd Try.prog Rd.no ratCon.p 40 26 [.agg #[.bool n, .string a, .string b], .agg #[.bool m, .string c, .string d]] =
    bif szB a && szB b then
      bif checkR { neg := n, n := a, d := b } != 0 then
        bif checkR { neg := n, n := a, d := b } != 0 then
          some
            (Ending.returned
              (Value.tuple
                {
                  toList :=
                    [Value.agg { toList := [Value.bool false, Value.string (bs []), Value.string (bs [])] },
                      Value.int IntKind.i64 (checkR { neg := n, n := a, d := b })] }))
        else
          some
            (Ending.returned
              (Value.tuple
                {
                  toList :=
                    [Value.agg { toList := [Value.bool false, Value.string (bs []), Value.string (bs [])] },
                      Value.int IntKind.i64 (checkR { neg := n, n := a, d := b })] }))
      else
        bif szB c && szB d then
          bif checkR { neg := m, n := c, d := d } != 0 then
            bif checkR { neg := m, n := c, d := d } != 0 then
              some
                (Ending.returned
                  (Value.tuple
                    {
                      toList :=
                        [Value.agg
                            { toList := [Value.bool false, Value.string (bs []), Value.string (bs [])] },
                          Value.int IntKind.i64 (checkR { neg := m, n := c, d := d })] }))
            else
              some
                (Ending.returned
                  (Value.tuple
                    {
                      toList :=
                        [Value.agg
                            { toList := [Value.bool false, Value.string (bs []), Value.string (bs [])] },
                          Value.int IntKind.i64 (checkR { neg := m, n := c, d := d })] }))
          else
            bif szB a && szB c then
              bif (timesO a c).isSome then
                bif szB b && szB d then
                  bif (timesO b d).isSome then
                    bif szB ((timesO a c).getD (bs [])) && szB ((timesO b d).getD (bs [])) then
                      bif
                          (overO { neg := !n == m, n := (timesO a c).getD (bs []) }
                              ((timesO b d).getD (bs []))).isSome then
                        some
                          (Ending.returned
                            (Value.tuple
                              {
                                toList :=
                                  [Value.agg
                                      {
                                        toList :=
                                          [Value.bool
                                              ((overO { neg := !n == m, n := (timesO a c).getD (bs []) }
                                                      ((timesO b d).getD (bs []))).getD
                                                  zR).neg,
                                            Value.string
                                              ((overO { neg := !n == m, n := (timesO a c).getD (bs []) }
                                                      ((timesO b d).getD (bs []))).getD
                                                  zR).n,
                                            Value.string
                                              ((overO { neg := !n == m, n := (timesO a c).getD (bs []) }
                                                      ((timesO b d).getD (bs []))).getD
                                                  zR).d] },
                                    Value.int IntKind.i64 0] }))
                      else
                        some
                          (Ending.returned
                            (Value.tuple
                              {
                                toList :=
                                  [Value.agg
                                      {
                                        toList :=
                                          [Value.bool false, Value.string (bs []), Value.string (bs [])] },
                                    Value.int IntKind.i64 2] }))
                    else none
                  else
                    some
                      (Ending.returned
                        (Value.tuple
                          {
                            toList :=
                              [Value.agg
                                  {
                                    toList :=
                                      [Value.bool false, Value.string (bs []), Value.string (bs [])] },
                                Value.int IntKind.i64 2] }))
                else none
              else
                some
                  (Ending.returned
                    (Value.tuple
                      {
                        toList :=
                          [Value.agg
                              { toList := [Value.bool false, Value.string (bs []), Value.string (bs [])] },
                            Value.int IntKind.i64 2] }))
            else none
        else none
    else none := by kernel_rfl

set_option maxRecDepth 100000 in
theorem T_div (n m : Bool) (a b c d : ByteArray) : sxEnd Try.prog Rd.no ratCon.p 40 28 [.agg #[.bool n, .string a, .string b], .agg #[.bool m, .string c, .string d]] =
    bif szB a && szB b then
      bif checkR { neg := n, n := a, d := b } != 0 then
        bif checkR { neg := n, n := a, d := b } != 0 then
          some
            (Ending.returned
              (Value.tuple
                {
                  toList :=
                    [Value.agg { toList := [Value.bool false, Value.string (bs []), Value.string (bs [])] },
                      Value.int IntKind.i64 (checkR { neg := n, n := a, d := b })] }))
        else
          some
            (Ending.returned
              (Value.tuple
                {
                  toList :=
                    [Value.agg { toList := [Value.bool false, Value.string (bs []), Value.string (bs [])] },
                      Value.int IntKind.i64 (checkR { neg := n, n := a, d := b })] }))
      else
        bif szB c && szB d then
          bif checkR { neg := m, n := c, d := d } != 0 then
            bif checkR { neg := m, n := c, d := d } != 0 then
              some
                (Ending.returned
                  (Value.tuple
                    {
                      toList :=
                        [Value.agg
                            { toList := [Value.bool false, Value.string (bs []), Value.string (bs [])] },
                          Value.int IntKind.i64 (checkR { neg := m, n := c, d := d })] }))
            else
              some
                (Ending.returned
                  (Value.tuple
                    {
                      toList :=
                        [Value.agg
                            { toList := [Value.bool false, Value.string (bs []), Value.string (bs [])] },
                          Value.int IntKind.i64 (checkR { neg := m, n := c, d := d })] }))
          else
            bif c.toList == (bs []).toList then
              some
                (Ending.returned
                  (Value.tuple
                    {
                      toList :=
                        [Value.agg
                            { toList := [Value.bool false, Value.string (bs []), Value.string (bs [])] },
                          Value.int IntKind.i64 71] }))
            else
              bif szB a && szB d then
                bif (timesO a d).isSome then
                  bif szB b && szB c then
                    bif (timesO b c).isSome then
                      bif szB ((timesO a d).getD (bs [])) && szB ((timesO b c).getD (bs [])) then
                        bif
                            (overO { neg := !n == m, n := (timesO a d).getD (bs []) }
                                ((timesO b c).getD (bs []))).isSome then
                          some
                            (Ending.returned
                              (Value.tuple
                                {
                                  toList :=
                                    [Value.agg
                                        {
                                          toList :=
                                            [Value.bool
                                                ((overO { neg := !n == m, n := (timesO a d).getD (bs []) }
                                                        ((timesO b c).getD (bs []))).getD
                                                    zR).neg,
                                              Value.string
                                                ((overO { neg := !n == m, n := (timesO a d).getD (bs []) }
                                                        ((timesO b c).getD (bs []))).getD
                                                    zR).n,
                                              Value.string
                                                ((overO { neg := !n == m, n := (timesO a d).getD (bs []) }
                                                        ((timesO b c).getD (bs []))).getD
                                                    zR).d] },
                                      Value.int IntKind.i64 0] }))
                        else
                          some
                            (Ending.returned
                              (Value.tuple
                                {
                                  toList :=
                                    [Value.agg
                                        {
                                          toList :=
                                            [Value.bool false, Value.string (bs []),
                                              Value.string (bs [])] },
                                      Value.int IntKind.i64 2] }))
                      else none
                    else
                      some
                        (Ending.returned
                          (Value.tuple
                            {
                              toList :=
                                [Value.agg
                                    {
                                      toList :=
                                        [Value.bool false, Value.string (bs []), Value.string (bs [])] },
                                  Value.int IntKind.i64 2] }))
                  else none
                else
                  some
                    (Ending.returned
                      (Value.tuple
                        {
                          toList :=
                            [Value.agg
                                {
                                  toList :=
                                    [Value.bool false, Value.string (bs []), Value.string (bs [])] },
                              Value.int IntKind.i64 2] }))
              else none
        else none
    else none := by kernel_rfl

set_option maxRecDepth 100000 in
theorem T_cmp (n m : Bool) (a b c d : ByteArray) : sxEnd Try.prog Rd.no ratCon.p 40 30 [.agg #[.bool n, .string a, .string b], .agg #[.bool m, .string c, .string d]] =
    bif szB a && szB b then
      bif checkR { neg := n, n := a, d := b } != 0 then
        some
          (Ending.returned
            (Value.tuple
              { toList := [Value.int IntKind.i64 0, Value.int IntKind.i64 (checkR { neg := n, n := a, d := b })] }))
      else
        bif szB c && szB d then
          bif checkR { neg := m, n := c, d := d } != 0 then
            some
              (Ending.returned
                (Value.tuple
                  { toList := [Value.int IntKind.i64 0, Value.int IntKind.i64 (checkR { neg := m, n := c, d := d })] }))
          else
            bif szB a && szB d then
              bif (timesO a d).isSome then
                bif szB c && szB b then
                  bif (timesO c b).isSome then
                    bif n == m && ((timesO a d).getD (bs []) == (timesO c b).getD (bs []) && true) then
                      some (Ending.returned (Value.tuple { toList := [Value.int IntKind.i64 0, Value.int IntKind.i64 0] }))
                    else
                      bif !n == m then
                        bif n then
                          some
                            (Ending.returned
                              (Value.tuple { toList := [Value.int IntKind.i64 (-1), Value.int IntKind.i64 0] }))
                        else
                          bif n then
                            bif szB ((timesO c b).getD (bs [])) && szB ((timesO a d).getD (bs [])) then
                              bif
                                  decide
                                    ((cmpF ((timesO c b).getD (bs [])) ((timesO a d).getD (bs []))).fst <
                                      0) then
                                some
                                  (Ending.returned
                                    (Value.tuple { toList := [Value.int IntKind.i64 (-1), Value.int IntKind.i64 0] }))
                              else
                                bif !n then
                                  bif !m then
                                    bif
                                        szB ((timesO a d).getD (bs [])) &&
                                          szB ((timesO c b).getD (bs [])) then
                                      bif
                                          decide
                                            ((cmpF ((timesO a d).getD (bs []))
                                                  ((timesO c b).getD (bs []))).fst <
                                              0) then
                                        some
                                          (Ending.returned
                                            (Value.tuple
                                              { toList := [Value.int IntKind.i64 (-1), Value.int IntKind.i64 0] }))
                                      else
                                        some
                                          (Ending.returned
                                            (Value.tuple { toList := [Value.int IntKind.i64 1, Value.int IntKind.i64 0] }))
                                    else none
                                  else
                                    some
                                      (Ending.returned
                                        (Value.tuple { toList := [Value.int IntKind.i64 1, Value.int IntKind.i64 0] }))
                                else
                                  some
                                    (Ending.returned
                                      (Value.tuple { toList := [Value.int IntKind.i64 1, Value.int IntKind.i64 0] }))
                            else none
                          else
                            bif !n then
                              bif !m then
                                bif szB ((timesO a d).getD (bs [])) && szB ((timesO c b).getD (bs [])) then
                                  bif
                                      decide
                                        ((cmpF ((timesO a d).getD (bs []))
                                              ((timesO c b).getD (bs []))).fst <
                                          0) then
                                    some
                                      (Ending.returned
                                        (Value.tuple { toList := [Value.int IntKind.i64 (-1), Value.int IntKind.i64 0] }))
                                  else
                                    some
                                      (Ending.returned
                                        (Value.tuple { toList := [Value.int IntKind.i64 1, Value.int IntKind.i64 0] }))
                                else none
                              else
                                some
                                  (Ending.returned
                                    (Value.tuple { toList := [Value.int IntKind.i64 1, Value.int IntKind.i64 0] }))
                            else
                              some
                                (Ending.returned
                                  (Value.tuple { toList := [Value.int IntKind.i64 1, Value.int IntKind.i64 0] }))
                      else
                        bif n then
                          bif szB ((timesO c b).getD (bs [])) && szB ((timesO a d).getD (bs [])) then
                            bif
                                decide
                                  ((cmpF ((timesO c b).getD (bs [])) ((timesO a d).getD (bs []))).fst <
                                    0) then
                              some
                                (Ending.returned
                                  (Value.tuple { toList := [Value.int IntKind.i64 (-1), Value.int IntKind.i64 0] }))
                            else
                              bif !n then
                                bif !m then
                                  bif
                                      szB ((timesO a d).getD (bs [])) &&
                                        szB ((timesO c b).getD (bs [])) then
                                    bif
                                        decide
                                          ((cmpF ((timesO a d).getD (bs []))
                                                ((timesO c b).getD (bs []))).fst <
                                            0) then
                                      some
                                        (Ending.returned
                                          (Value.tuple { toList := [Value.int IntKind.i64 (-1), Value.int IntKind.i64 0] }))
                                    else
                                      some
                                        (Ending.returned
                                          (Value.tuple { toList := [Value.int IntKind.i64 1, Value.int IntKind.i64 0] }))
                                  else none
                                else
                                  some
                                    (Ending.returned
                                      (Value.tuple { toList := [Value.int IntKind.i64 1, Value.int IntKind.i64 0] }))
                              else
                                some
                                  (Ending.returned
                                    (Value.tuple { toList := [Value.int IntKind.i64 1, Value.int IntKind.i64 0] }))
                          else none
                        else
                          bif !n then
                            bif !m then
                              bif szB ((timesO a d).getD (bs [])) && szB ((timesO c b).getD (bs [])) then
                                bif
                                    decide
                                      ((cmpF ((timesO a d).getD (bs [])) ((timesO c b).getD (bs []))).fst <
                                        0) then
                                  some
                                    (Ending.returned
                                      (Value.tuple { toList := [Value.int IntKind.i64 (-1), Value.int IntKind.i64 0] }))
                                else
                                  some
                                    (Ending.returned
                                      (Value.tuple { toList := [Value.int IntKind.i64 1, Value.int IntKind.i64 0] }))
                              else none
                            else
                              some
                                (Ending.returned
                                  (Value.tuple { toList := [Value.int IntKind.i64 1, Value.int IntKind.i64 0] }))
                          else
                            some
                              (Ending.returned
                                (Value.tuple { toList := [Value.int IntKind.i64 1, Value.int IntKind.i64 0] }))
                  else some (Ending.returned (Value.tuple { toList := [Value.int IntKind.i64 0, Value.int IntKind.i64 2] }))
                else none
              else some (Ending.returned (Value.tuple { toList := [Value.int IntKind.i64 0, Value.int IntKind.i64 2] }))
            else none
        else none
    else none := by kernel_rfl

set_option maxRecDepth 100000 in
theorem T_floor (n : Bool) (a b : ByteArray) : sxEnd Try.prog Rd.no ratCon.p 40 14 [.agg #[.bool n, .string a, .string b]] =
    bif szB a && szB b then
      bif checkR { neg := n, n := a, d := b } != 0 then
        some
          (Ending.returned
            (Value.tuple
              { toList := [Value.int IntKind.i64 0, Value.int IntKind.i64 (checkR { neg := n, n := a, d := b })] }))
      else
        bif szB a && szB b then
          bif szB (divF a b).fst then
            bif !(intF (divF a b).fst).snd then
              some (Ending.returned (Value.tuple { toList := [Value.int IntKind.i64 0, Value.int IntKind.i64 2] }))
            else
              bif decide ((intF (divF a b).fst).fst > 4611686018427387904) then
                some (Ending.returned (Value.tuple { toList := [Value.int IntKind.i64 0, Value.int IntKind.i64 2] }))
              else
                bif !n then
                  some
                    (Ending.returned
                      (Value.tuple
                        { toList := [Value.int IntKind.i64 (intF (divF a b).fst).fst, Value.int IntKind.i64 0] }))
                else
                  bif !(divF a b).snd.fst.toList == (bs []).toList then
                    bif decide (IntKind.i64.wrap ((intF (divF a b).fst).fst + 1) > 4611686018427387904) then
                      some (Ending.returned (Value.tuple { toList := [Value.int IntKind.i64 0, Value.int IntKind.i64 2] }))
                    else
                      some
                        (Ending.returned
                          (Value.tuple
                            {
                              toList :=
                                [Value.int IntKind.i64
                                    (IntKind.i64.wrap (0 - IntKind.i64.wrap ((intF (divF a b).fst).fst + 1))),
                                  Value.int IntKind.i64 0] }))
                  else
                    bif decide ((intF (divF a b).fst).fst > 4611686018427387904) then
                      some (Ending.returned (Value.tuple { toList := [Value.int IntKind.i64 0, Value.int IntKind.i64 2] }))
                    else
                      some
                        (Ending.returned
                          (Value.tuple
                            {
                              toList :=
                                [Value.int IntKind.i64 (IntKind.i64.wrap (0 - (intF (divF a b).fst).fst)),
                                  Value.int IntKind.i64 0] }))
          else none
        else none
    else none := by kernel_rfl

end Go.Proofs.Ytieapjdabffjcaa
