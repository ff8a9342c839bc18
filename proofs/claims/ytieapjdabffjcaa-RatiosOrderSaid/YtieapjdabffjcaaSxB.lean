/-
  A symbolic executor: one operation.
-/
import Derived.Test.YtieapjdabffjcaaSxA
import GoSem.Dispatch
namespace Go.SX
open Go.RowKit

/-- what comes of an operation: with branches on tests, and with readings of memory that came in -/
inductive R3 (α : Type) where
  | ok (a : α)
  | br (b : Bool) (x y : R3 α)
  | no
def R3.res {α : Type} : R3 α → Option α
  | .ok a => some a
  | .br b x y => bif b then x.res else y.res
  | .no => none
def R3.k {α β : Type} : R3 α → (α → Option β) → Option β
  | .ok a, f => f a
  | .br b x y, f => bif b then x.k f else y.k f
  | .no, _ => none
theorem R3.k_some {α β : Type} : ∀ (x : R3 α) (f : α → Option β) (b : β), x.k f = some b → ∃ a, x.res = some a ∧ f a = some b
  | .ok a, f, b, h => ⟨a, rfl, h⟩
  | .br true x y, f, b, h => R3.k_some x f b h
  | .br false x y, f, b, h => R3.k_some y f b h
  | .no, f, b, h => by cases h
def R3.bind {α β : Type} : R3 α → (α → R3 β) → R3 β
  | .ok a, f => f a
  | .br b x y, f => .br b (x.bind f) (y.bind f)
  | .no, _ => .no
theorem R3.bind_some {α β : Type} : ∀ (x : R3 α) (f : α → R3 β) (b : β), (x.bind f).res = some b → ∃ a, x.res = some a ∧ (f a).res = some b
  | .ok a, f, b, h => ⟨a, rfl, h⟩
  | .br true x y, f, b, h => R3.bind_some x f b h
  | .br false x y, f, b, h => R3.bind_some y f b h
  | .no, f, b, h => by cases h
def R3.need {α : Type} (b : Bool) (x : R3 α) : R3 α := .br b x .no
theorem R3.need_some {α : Type} {b : Bool} {x : R3 α} {a : α} (h : (R3.need b x).res = some a) : b = true ∧ x.res = some a := by
  cases b
  · cases h
  · exact ⟨rfl, h⟩

/-- an operation's meaning that neither reads nor writes -/
def pureV {α : Type} (P : Program) : Sem α → Option α
  | .pure a => some a
  | .program k => pureV P (k P)
  | .mark _ k => pureV P k
  | _ => none
theorem pureV_run {α : Type} {P : Program} : ∀ (s : Sem α) (a : α), pureV P s = some a → ∀ w, s.run P w = .ok a w
  | .pure a, b, h, w => by simp only [pureV, Option.some.injEq] at h; subst h; rfl
  | .program k, b, h, w => by simpa [Sem.run] using pureV_run (k P) b h w
  | .mark _ k, b, h, w => by simpa [Sem.run] using pureV_run k b h w
  | .load .., _, h, _ => by simp [pureV] at h
  | .store .., _, h, _ => by simp [pureV] at h
  | .new .., _, h, _ => by simp [pureV] at h
  | .shape .., _, h, _ => by simp [pureV] at h
  | .freeze .., _, h, _ => by simp [pureV] at h
  | .frozen .., _, h, _ => by simp [pureV] at h
  | .getObj .., _, h, _ => by simp [pureV] at h
  | .setObj .., _, h, _ => by simp [pureV] at h
  | .choose .., _, h, _ => by simp [pureV] at h
  | .sys .., _, h, _ => by simp [pureV] at h
  | .halt _, _, h, _ => by simp [pureV] at h

def nth {α : Type} : List α → Nat → Option α
  | [], _ => none
  | x :: _, 0 => some x
  | _ :: l, n + 1 => nth l n
theorem nth_eq {α : Type} : ∀ (l : List α) (n : Nat), nth l n = l[n]?
  | [], n => by simp [nth]
  | x :: l, 0 => by simp [nth]
  | x :: l, n + 1 => by simp [nth, nth_eq l n]
def cut {α : Type} (l : List α) (off n : Nat) : List α := (l.drop off).take n
def lay {α : Type} (l : List α) (off : Nat) (cs : List α) : List α := l.take off ++ cs ++ l.drop (off + cs.length)

def isOp : Operand → Bool
  | .tmp _ => true
  | _ => false
def SV.cells : SV → Option (List SV)
  | .agg l => some l
  | .val (.agg cs) => some (cs.toList.map .val)
  | .any => none
  | x => some [x]

/-- a value that a cell may hold -/
def atomic : Value → Bool
  | .agg _ => false
  | .tuple _ => false
  | _ => true
def SV.atom : SV → Bool
  | .val v => atomic v
  | .ptr .. => true
  | .sl .. => true
  | .mp _ => true
  | .clo .. => true
  | _ => false

def tyAgg (P : Program) (t : TypeId) : Option Bool := (P.underlying t).map fun | .struct _ | .array _ _ => true | _ => false
def tySize (P : Program) (t : TypeId) : Option Nat := (P.info? t).map (·.size)
def tyZero (P : Program) (t : TypeId) : Option Value := (P.info? t).bind (·.zero)

/-- the reading of a variable of some type in memory that came in -/
def readExt (P : Program) (rd : Rd) (t : TypeId) (a : Addr) (m : List Blk) : R3 (SV × List Blk) :=
  match P.underlying t with
  | some .string => .need (rd.okS a) (.ok (.val (.string (rd.s a)), m))
  | some (.int kd) => .need (rd.okI kd a) (.ok (.val (.int kd (rd.i kd a)), m))
  | some .bool => .need (rd.okB a) (.ok (.val (.bool (rd.b a)), m))
  | some (.slice _) => .need (rd.okL a) (.ok (.val (.slice (rd.l a) (rd.ln a) (rd.lc a)), m))
  | _ => .no
/-- the types of the cells of a variable -/
def flat (P : Program) : Nat → TypeId → Option (List TypeDesc)
  | 0, _ => none
  | n + 1, t => match P.underlying t with
    | some (.struct fields) => fields.toList.foldr (fun f r => match flat P n f.type, r with | some a, some b => some (a ++ b) | _, _ => none) (some [])
    | some (.array _ _) => none
    | some d => some [d]
    | none => none
def readCells (rd : Rd) (a : Addr) : Nat → List TypeDesc → R3 (List SV)
  | _, [] => .ok []
  | j, d :: ds =>
    let b := a.add j
    match d with
    | .string => .need (rd.okS b) ((readCells rd a (j + 1) ds).bind fun l => .ok (.val (.string (rd.s b)) :: l))
    | .int kd => .need (rd.okI kd b) ((readCells rd a (j + 1) ds).bind fun l => .ok (.val (.int kd (rd.i kd b)) :: l))
    | .bool => .need (rd.okB b) ((readCells rd a (j + 1) ds).bind fun l => .ok (.val (.bool (rd.b b)) :: l))
    | .slice _ => .need (rd.okL b) ((readCells rd a (j + 1) ds).bind fun l => .ok (.val (.slice (rd.l b) (rd.ln b) (rd.lc b)) :: l))
    | _ => .no
def readAgg (P : Program) (rd : Rd) (t : TypeId) (a : Addr) (m : List Blk) : R3 (SV × List Blk) :=
  match flat P 8 t, tySize P t with
  | some ds, some n => if ds.length = n then (readCells rd a 0 ds).bind fun l => .ok (.agg l, m) else .no
  | _, _ => .no
def isSel : Op → Bool
  | .select .. => true
  | _ => false

def isNew : Op → Bool
  | .alloc _ => true
  | .box .. => true
  | .buildSlice .. => true
  | .makeMap _ none => true
  | _ => false
def isStore : Op → Bool
  | .store .. => true
  | .insert .. => true
  | .mapUpdate .. => true
  | _ => false

def sxPure (P : Program) (o : Oper) (ev : Operand → SV) (m : List Blk) : R3 (SV × List Blk) :=
  if o.op.operands.toList.all (fun x => (ev x).plain.isSome) && !isSel o.op then
    match pureV P (execOp (fun x => (ev x).plain.getD undef) o) with
    | some (.value v) => .ok (.val v, m)
    | _ => .no
  else .no

def sxLoad (P : Program) (rd : Rd) (t : TypeId) (x : SV) (m : List Blk) : R3 (SV × List Blk) :=
  match x with
  | .ptr i off =>
    match nth m i, tyAgg P t, tySize P t with
    | some (.cells l _ _), some true, some n => if (cut l off n).length = n then .ok (.agg (cut l off n), m) else .no
    | some (.cells l _ _), some false, _ => match nth l off with
      | some v => .ok (v, m)
      | none => .no
    | _, _, _ => .no
  | .val (.pointer (some a)) => match tyAgg P t with
    | some false => readExt P rd t a m
    | some true => readAgg P rd t a m
    | none => .no
  | _ => .no

/-- a block behind a store -/
def stBlk (P : Program) (t : TypeId) (off : Nat) (v : SV) (b : Blk) : Option Blk :=
  match b, v.cells, tySize P t with
  | .cells l ty true, some cs, some n => if decide (cs.length = n) && decide (off + cs.length ≤ l.length) && cs.all SV.atom then some (.cells (lay l off cs) ty true) else none
  | _, _, _ => none
def sxStore (P : Program) (t : TypeId) (x v : SV) (m : List Blk) : R3 (SV × List Blk) :=
  match x with
  | .ptr i off => match nth m i with
    | some b => match stBlk P t off v b with
      | some b' => .ok (.val undef, m.set i b')
      | none => .no
    | none => .no
  | _ => .no

/-- a part of a struct -/
def partV (P : Program) (t : TypeId) (cs : Array Value) (off : Nat) : Option Value :=
  match tyAgg P t with
  | some true => (tySize P t).map fun n => .agg (cs.extract off (off + n))
  | some false => cs[off]?
  | none => none
/-- equality of two values of a type, as far as structs of plain fields -/
def eqV (P : Program) : Nat → TypeId → Value → Value → Option Bool
  | 0, _, _, _ => none
  | n + 1, t, x, y =>
    match P.underlying t with
    | some .bool => match x, y with | .bool a, .bool b => some (a == b) | _, _ => none
    | some (.int _) => match x, y with | .int k a, .int k' b => if k = k' then some (a == b) else none | _, _ => none
    | some .string => match x, y with | .string a, .string b => some (a == b) | _, _ => none
    | some (.struct fields) => match x, y with
      | .agg xs, .agg ys => if P.stoodInHeld t then none else
        (fields.toList.foldr (fun f r => if f.name = "_" then none else match partV P f.type xs f.offset, partV P f.type ys f.offset, r with
          | some u, some v, some c => (eqV P n f.type u v).map (· && c)
          | _, _, _ => none) (some true))
      | _, _ => none
    | _ => none
def isStruct (P : Program) (t : TypeId) : Bool := match P.underlying t with | some (.struct _) => true | _ => false
def sxEq (P : Program) (neg : Bool) (t : TypeId) (x y : SV) (m : List Blk) : R3 (SV × List Blk) :=
  match x.plain, y.plain with
  | some (.agg xs), some (.agg ys) => if P.eqGuardType P.depth t then .no else match eqV P 8 t (.agg xs) (.agg ys) with
    | some b => .ok (.val (.bool (bif neg then !b else b)), m)
    | none => .no
  | _, _ => .no
/-- maps whose keys are strings, ints or bools -/
def keyKind : TypeDesc → Bool
  | .string => true
  | .int _ => true
  | .bool => true
  | _ => false
def sxFind (kind : TypeDesc) (k : Value) : List (Value × SV) → R3 (Option SV)
  | [] => .ok none
  | kv :: l => match Instr.sameNow kind k kv.1 with
    | some b => .br b (.ok (some kv.2)) (sxFind kind k l)
    | none => .no
def sxInsert (P : Program) (t : TypeId) (mp k v : SV) (m : List Blk) : R3 (SV × List Blk) :=
  match P.underlying t, mp, k with
  | some (.map kt _), .mp i, .val kv => match P.underlying kt, nth m i with
    | some kind, some (.mp l) => if keyKind kind then (sxFind kind kv l).bind fun r => match r with
      | none => .ok (.val undef, m.set i (.mp (l ++ [(kv, v)])))
      | some _ => .no
      else .no
    | _, _ => .no
  | _, _, _ => .no
def sxLookup (P : Program) (t : TypeId) (mp k : SV) (ok : Bool) (m : List Blk) : R3 (SV × List Blk) :=
  match P.underlying t, mp, k with
  | some (.map kt et), .mp i, .val kv => match P.underlying kt, nth m i with
    | some kind, some (.mp l) => if keyKind kind then (sxFind kind kv l).bind fun r => match r with
      | some v => .ok (bif ok then .tup [v, .val (.bool true)] else v, m)
      | none => match tyZero P et with
        | some z => .ok (bif ok then .tup [.val z, .val (.bool false)] else .val z, m)
        | none => .no
      else .no
    | _, _ => .no
  | _, _, _ => .no

def sxPick (t : Bool) (x y : SV) (m : List Blk) : R3 (SV × List Blk) :=
  match x, y with
  | .val (.bool x), .val (.bool y) => .ok (.val (.bool (bif t then x else y)), m)
  | x, y => .br t (.ok (x, m)) (.ok (y, m))
def sxFieldAddr (P : Program) (t : TypeId) (i off f : Nat) (m : List Blk) : R3 (SV × List Blk) :=
  match P.underlying t with
  | some (.struct fs) => match fs[f]? with
    | some fd => match tySize P fd.type with
      | some (_ + 1) => .ok (.ptr i (off + fd.offset), m)
      | _ => .no
    | none => .no
  | _ => .no
def sxField (P : Program) (t : TypeId) (l : List SV) (f : Nat) (m : List Blk) : R3 (SV × List Blk) :=
  match P.underlying t with
  | some (.struct fs) => match fs[f]? with
    | some fd => match tyAgg P fd.type, tySize P fd.type with
      | some true, some n => .ok (.agg (cut l fd.offset n), m)
      | some false, _ => match nth l fd.offset with
        | some v => .ok (v, m)
        | none => .no
      | _, _ => .no
    | none => .no
  | _ => .no
def inB (n : Int) (len : Nat) : Bool := decide (0 ≤ n) && decide (n.toNat < len)
def sxIndexAddr (P : Program) (t : TypeId) (x : SV) (n : Int) (m : List Blk) : R3 (SV × List Blk) :=
  match P.underlying t, x with
  | some (.slice e), .sl i off len _ => match tySize P e with
    | some sz => .need (inB n len) (.ok (.ptr i (off + n.toNat * sz), m))
    | none => .no
  | some (.slice e), .val (.slice (some a) len _) => match tySize P e with
    | some sz => .need (inB n len) (.ok (.val (.pointer (some (a.add (n.toNat * sz)))), m))
    | none => .no
  | some (.array len e), .ptr i off => match tySize P e with
    | some sz => .need (inB n len) (.ok (.ptr i (off + n.toNat * sz), m))
    | none => .no
  | _, _ => .no
def sxStrIndex (s : ByteArray) (n : Int) (m : List Blk) : R3 (SV × List Blk) := .need (inB n s.size) (.ok (.val (.int .u8 (s.data.getD n.toNat 0).toNat), m))
def sxSlice (s : ByteArray) (lo hi : Option SV) (m : List Blk) : R3 (SV × List Blk) :=
  match lo, hi with
  | none, none => .ok (.val (.string (s.extract 0 s.size)), m)
  | some (.val (.int _ l)), none => .need (decide (0 ≤ l) && decide (l.toNat ≤ s.size)) (.ok (.val (.string (s.extract l.toNat s.size)), m))
  | none, some (.val (.int _ h)) => .need (decide (0 ≤ h) && decide (h.toNat ≤ s.size)) (.ok (.val (.string (s.extract 0 h.toNat)), m))
  | some (.val (.int _ l)), some (.val (.int _ h)) => .need (decide (0 ≤ l) && decide (0 ≤ h) && decide (l.toNat ≤ h.toNat) && decide (h.toNat ≤ s.size)) (.ok (.val (.string (s.extract l.toNat h.toNat)), m))
  | _, _ => .no
def sxDiv (rem : Bool) (x y : SV) (m : List Blk) : R3 (SV × List Blk) :=
  match x, y with
  | .val (.int k a), .val (.int k' b) => .need (decide (k = k') && !decide (b = 0)) (.ok (.val (.int k (bif rem then a.tmod b else k.wrap (a.tdiv b))), m))
  | _, _ => .no
def sxBuildSlice (P : Program) (t : TypeId) (n : Nat) (ixs : List Nat) (css : Option (List (List SV))) (m : List Blk) : R3 (SV × List Blk) :=
  match P.underlying t, css with
  | some (.slice e), some css => match tySize P e with
    | some sz => if css.all (fun c => c.length == sz) && ixs == List.range n && css.length == n && decide (n * sz ≤ 2 ^ 24) && decide (0 < n * sz) && (tyZero P e).isSome then .ok (.sl m.length 0 n n, m ++ [.cells css.flatten e true]) else .no
    | none => .no
  | _, _ => .no
def sxLen (P : Program) (t : Option TypeId) (x : SV) (m : List Blk) : Option (R3 (SV × List Blk)) :=
  match t.bind P.underlying, x with
  | some (.slice _), .sl _ _ n _ => some (.ok (.val (.int .i64 n), m))
  | some (.slice _), .val (.slice _ n _) => some (.ok (.val (.int .i64 n), m))
  | _, _ => none
def allSome {α : Type} : List (Option α) → Option (List α)
  | [] => some []
  | none :: _ => none
  | some a :: l => (allSome l).map (a :: ·)

/-- a slice of bytes to a string -/
def byteL : List SV → Option (List Int)
  | [] => some []
  | .val (.int .u8 n) :: l => (byteL l).map (n :: ·)
  | _ => none
def strOf (ns : List Int) : ByteArray := ⟨(ns.map fun n => UInt8.ofNat n.toNat).toArray⟩
def sxConv (P : Program) (src dst : TypeId) (i off n : Nat) (m : List Blk) : R3 (SV × List Blk) :=
  match P.underlying src, P.underlying dst with
  | some (.slice e), some .string => match P.underlying e, nth m i with
    | some (.int .u8), some (.cells l _ _) => match byteL (cut l off n) with
      | some ns => if ns.length = n then .ok (.val (.string (strOf ns)), m) else .no
      | none => .no
    | _, _ => .no
  | _, _ => .no

def sxVal (P : Program) (rd : Rd) (o : Oper) (ev : Operand → SV) (m : List Blk) : R3 (SV × List Blk) :=
  match o.op with
  | .move x => .ok (ev x, m)
  | .assign x => .ok (ev x, m)
  | .pick c a b => match ev c with
    | .val (.bool t) => sxPick t (ev a) (ev b) m
    | _ => .no
  | .alloc t => match tyZero P t with
    | some v => .ok (.ptr m.length 0, m ++ [.cells (v.cells.toList.map .val) t true])
    | none => .no
  | .box t x => match (ev x).cells with
    | some l => .ok (.ptr m.length 0, m ++ [.cells l t true])
    | none => .no
  | .load t x => sxLoad P rd t (ev x) m
  | .store t x v => sxStore P t (ev x) (ev v) m
  | .nilCheck x => match ev x with
    | .ptr i off => .ok (.ptr i off, m)
    | .clo (.func f) l k => .ok (.clo (.func f) l k, m)
    | _ => sxPure P o ev m
  | .fieldAddr t x f => match ev x with
    | .ptr i off => sxFieldAddr P t i off f m
    | _ => sxPure P o ev m
  | .makeFunc fn first caps =>
    if (first ++ caps).toList.all (fun x => (ev x).plain.isSome) then sxPure P o ev m
    else .ok (.clo fn (first.toList.map ev) (caps.toList.map ev), m)
  | .extract x ix => match ev x with
    | .tup l => match nth l ix with
      | some v => .ok (v, m)
      | none => .no
    | _ => sxPure P o ev m
  | .field t x f => match ev x with
    | .agg l => sxField P t l f m
    | _ => sxPure P o ev m
  | .index t x ix => match P.underlying t, ev x, ev ix with
    | some .string, .val (.string s), .val (.int _ n) => sxStrIndex s n m
    | _, _, _ => sxPure P o ev m
  | .indexAddr t x ix => match ev ix with
    | .val (.int _ n) => sxIndexAddr P t (ev x) n m
    | _ => .no
  | .binOp op t x y _ => match op with
    | .quo => sxDiv false (ev x) (ev y) m
    | .rem => sxDiv true (ev x) (ev y) m
    | .eql => if isStruct P t then sxEq P false t (ev x) (ev y) m else sxPure P o ev m
    | .neq => if isStruct P t then sxEq P true t (ev x) (ev y) m else sxPure P o ev m
    | _ => sxPure P o ev m
  | .slice t x lo hi mx => match P.underlying t, ev x, mx with
    | some .string, .val (.string s), none => sxSlice s (lo.map ev) (hi.map ev) m
    | _, _, _ => .no
  | .convert src dst x => match ev x with
    | .sl i off n _ => sxConv P src dst i off n m
    | _ => sxPure P o ev m
  | .makeMap _ none => .ok (.mp m.length, m ++ [.mp []])
  | .insert t mp k v => sxInsert P t (ev mp) (ev k) (ev v) m
  | .mapUpdate t mp k v => sxInsert P t (ev mp) (ev k) (ev v) m
  | .lookup t x ix ok => sxLookup P t (ev x) (ev ix) ok m
  | .buildSlice t n parts => sxBuildSlice P t n (parts.toList.map (·.1)) (allSome (parts.toList.map fun p => (ev p.2).cells)) m
  | .call c => match c.callee, c.args.toList with
    | .builtin .len, [x] => match sxLen P c.argTypes[0]? (ev x) m with
      | some r => r
      | none => sxPure P o ev m
    | .builtin _, _ => sxPure P o ev m
    | _, _ => .no
  | _ => sxPure P o ev m

end Go.SX
