/-
  A symbolic executor over the model's code: values that know their own blocks, and the relation to the model's values.
-/
import Derived.Orders
import Derived.Defers
import Derived.Below
import Derived.Laws.Rows
import Derived.Laws.Tables
import GoSem.Dispatch
import Derived.Laws.AppendOwn
import Derived.Laws.Strings
import Derived.Laws.MakeOwn
import Derived.Laws.BytesString
import Derived.Tactics
import Derived.LoopN
namespace Go.SX
open Go.RowKit

/-- the types of data that may be taken az plain values -/
inductive Ty where
  | int (k : IntKind)
  | str
  | bool
  | unit
  | pair (a b : Ty)
  | sl (t : Ty)
  deriving DecidableEq
@[reducible] def Ty.den : Ty → Type
  | .int _ => Int
  | .str => ByteArray
  | .bool => Bool
  | .unit => Unit
  | .pair a b => a.den × b.den
  | .sl t => List t.den
def Ty.size : Ty → Nat
  | .int _ => 1
  | .str => 1
  | .bool => 1
  | .unit => 0
  | .pair a b => a.size + b.size
  | .sl _ => 1
def Ty.dflt : (t : Ty) → t.den
  | .int _ => (0 : Int)
  | .str => (⟨#[]⟩ : ByteArray)
  | .bool => false
  | .unit => ()
  | .pair a b => (a.dflt, b.dflt)
  | .sl t => ([] : List t.den)
/-- the numbers of blocks, the values that lists of ours have, and the cells that nobody writes any more -/
structure Ctx where
  b : Nat → Option Nat
  v : Nat → Option Value
  z : Nat → Nat → Option Value
/-- more is numbered, more stands still -/
structure Le (ρ ρ' : Ctx) : Prop where
  b : ∀ i r : Nat, ρ.b i = some r → ρ'.b i = some r
  v : ∀ (i : Nat) (u : Value), ρ.v i = some u → ρ'.v i = some u
  z : ∀ (r o : Nat) (u : Value), ρ.z r o = some u → ρ'.z r o = some u
theorem Le.refl (ρ : Ctx) : Le ρ ρ := ⟨fun _ _ h => h, fun _ _ h => h, fun _ _ _ h => h⟩
theorem Le.trans {a b c : Ctx} (h : Le a b) (k : Le b c) : Le a c := ⟨fun i x hx => k.b i x (h.b i x hx), fun i x hx => k.v i x (h.v i x hx), fun i j x hx => k.z i j x (h.z i j x hx)⟩
def lget {α : Type} (l : List α) (i : Nat) : Option α := l[i]?
/-- these cells stand still -/
def ZC (z : Nat → Nat → Option Value) (r o : Nat) (ds : List Value) : Prop := ∀ (j : Nat) (x : Value), ds[j]? = some x → z r (o + j) = some x
/-- the cells of a plain value -/
def HC (z : Nat → Nat → Option Value) : (t : Ty) → t.den → List Value → Prop
  | .int k, x, cs => cs = [.int k x]
  | .str, x, cs => cs = [.string x]
  | .bool, x, cs => cs = [.bool x]
  | .unit, _, cs => cs = []
  | .pair a b, x, cs => ∃ c1 c2, cs = c1 ++ c2 ∧ HC z a x.1 c1 ∧ HC z b x.2 c2
  | .sl t, l, cs => ∃ base c, cs = [.slice base (List.length l) c] ∧ List.length l ≤ c ∧ ((∃ r off, base = some ⟨r, off, none⟩ ∧ ∀ (i : Nat) (x : t.den), lget l i = some x → ∃ ds, ZC z r (off + i * t.size) ds ∧ HC z t x ds) ∨ l = ([] : List t.den) ∧ c = 0)
theorem ZC.mono {z z' : Nat → Nat → Option Value} (h : ∀ r o u, z r o = some u → z' r o = some u) {r o : Nat} {ds : List Value} (hh : ZC z r o ds) : ZC z' r o ds := fun j x hx => h _ _ _ (hh j x hx)
theorem HC.mono {z z' : Nat → Nat → Option Value} (h : ∀ r o u, z r o = some u → z' r o = some u) : ∀ (t : Ty) (x : t.den) (cs : List Value), HC z t x cs → HC z' t x cs
  | .int _, _, _, hh => hh
  | .str, _, _, hh => hh
  | .bool, _, _, hh => hh
  | .unit, _, _, hh => hh
  | .pair a b, x, cs, ⟨c1, c2, h1, h2, h3⟩ => ⟨c1, c2, h1, HC.mono h a x.1 c1 h2, HC.mono h b x.2 c2 h3⟩
  | .sl t, l, cs, ⟨base, c, h1, h2, h3⟩ => ⟨base, c, h1, h2, h3.imp (fun ⟨r, off, h4, h5⟩ => ⟨r, off, h4, fun i x hx => by
      obtain ⟨ds, h6, h7⟩ := h5 i x hx
      exact ⟨ds, h6.mono h, HC.mono h t x ds h7⟩⟩) id⟩
theorem HC.length {z : Nat → Nat → Option Value} : ∀ (t : Ty) (x : t.den) (cs : List Value), HC z t x cs → cs.length = t.size
  | .int _, _, _, hh => by rw [HC] at hh; subst hh; rfl
  | .str, _, _, hh => by rw [HC] at hh; subst hh; rfl
  | .bool, _, _, hh => by rw [HC] at hh; subst hh; rfl
  | .unit, _, _, hh => by rw [HC] at hh; subst hh; rfl
  | .pair a b, x, cs, ⟨c1, c2, h1, h2, h3⟩ => by
    subst h1
    rw [List.length_append, HC.length a _ _ h2, HC.length b _ _ h3]
    rfl
  | .sl t, l, cs, ⟨base, c, h1, _, _⟩ => by subst h1; rfl

/-- a value: az it stands; or with pointers to numbered blocks -/
inductive SV where
  | val (v : Value)
  | any
  | ptr (i off : Nat)
  | sl (i off len cap : Nat)
  | mp (i : Nat)
  | agg (l : List SV)
  | tup (l : List SV)
  | clo (fn : Fn) (first caps : List SV)
  | dsl (t : Ty) (l : List t.den)
  | dpt (t : Ty) (x : t.den) (off : Nat)
  | vec (i : Nat)
  | wpt (i sz k off : Nat)
  | emp

mutual
def SV.R (ρ : Ctx) : SV → Value → Prop
  | .val v, u => u = v
  | .any, _ => True
  | .ptr i off, u => ∃ b, ρ.b i = some b ∧ u = .pointer (some ⟨b, off, none⟩)
  | .sl i off n c, u => ∃ b, ρ.b i = some b ∧ u = .slice (some ⟨b, off, none⟩) n c
  | .mp i, u => ∃ b, ρ.b i = some b ∧ u = .map (some b)
  | .agg l, u => ∃ us, u = .agg us.toArray ∧ SV.RL ρ l us
  | .tup l, u => ∃ us, u = .tuple us.toArray ∧ SV.RL ρ l us
  | .clo fn l k, u => ∃ us vs, u = .func fn us.toArray vs.toArray ∧ SV.RL ρ l us ∧ SV.RL ρ k vs
  | .dsl t l, u => HC ρ.z (.sl t) l [u]
  | .dpt t x off, u => ∃ r o ds, u = .pointer (some ⟨r, o + off, none⟩) ∧ ZC ρ.z r o ds ∧ HC ρ.z t x ds
  | .vec i, u => ρ.v i = some u ∧ ∃ base n c, u = .slice base n c
  | .wpt i sz k off, u => ∃ r n c, ρ.v i = some (.slice (some ⟨r, 0, none⟩) n c) ∧ u = .pointer (some ⟨r, k * sz + off, none⟩)
  | .emp, u => ∃ a, u = .slice a 0 0
def SV.RL (ρ : Ctx) : List SV → List Value → Prop
  | [], us => us = []
  | x :: l, us => ∃ u us', us = u :: us' ∧ x.R ρ u ∧ SV.RL ρ l us'
end

mutual
theorem SV.R.mono {ρ ρ' : Ctx} (h : Le ρ ρ') : ∀ (x : SV) (u : Value), x.R ρ u → x.R ρ' u
  | .val _, _, hh => hh
  | .any, _, _ => trivial
  | .ptr _ _, _, ⟨b, h1, h2⟩ => ⟨b, h.b _ _ h1, h2⟩
  | .sl _ _ _ _, _, ⟨b, h1, h2⟩ => ⟨b, h.b _ _ h1, h2⟩
  | .mp _, _, ⟨b, h1, h2⟩ => ⟨b, h.b _ _ h1, h2⟩
  | .agg l, _, ⟨us, h1, h2⟩ => ⟨us, h1, SV.RL.mono h l us h2⟩
  | .tup l, _, ⟨us, h1, h2⟩ => ⟨us, h1, SV.RL.mono h l us h2⟩
  | .clo _ l k, _, ⟨us, vs, h1, h2, h3⟩ => ⟨us, vs, h1, SV.RL.mono h l us h2, SV.RL.mono h k vs h3⟩
  | .dsl t l, _, hh => HC.mono h.z (.sl t) l _ hh
  | .dpt t x _, _, ⟨r, o, ds, h1, h2, h3⟩ => ⟨r, o, ds, h1, h2.mono h.z, HC.mono h.z t x ds h3⟩
  | .vec _, _, ⟨h1, h2⟩ => ⟨h.v _ _ h1, h2⟩
  | .wpt _ _ _ _, _, ⟨r, n, c, h1, h2⟩ => ⟨r, n, c, h.v _ _ h1, h2⟩
  | .emp, _, hh => hh
theorem SV.RL.mono {ρ ρ' : Ctx} (h : Le ρ ρ') : ∀ (l : List SV) (us : List Value), SV.RL ρ l us → SV.RL ρ' l us
  | [], _, hh => hh
  | x :: l, _, ⟨u, us', h1, h2, h3⟩ => ⟨u, us', h1, SV.R.mono h x u h2, SV.RL.mono h l us' h3⟩
end

mutual
/-- az a value of the model, if it holds no block of ours -/
def SV.plain : SV → Option Value
  | .val v => some v
  | .agg l => (SV.plainL l).map fun us => .agg us.toArray
  | .tup l => (SV.plainL l).map fun us => .tuple us.toArray
  | .clo fn l k => match SV.plainL l, SV.plainL k with
    | some us, some vs => some (.func fn us.toArray vs.toArray)
    | _, _ => none
  | _ => none
def SV.plainL : List SV → Option (List Value)
  | [] => some []
  | x :: l => match x.plain, SV.plainL l with
    | some u, some us => some (u :: us)
    | _, _ => none
end

mutual
theorem SV.plain_R {ρ : Ctx} : ∀ (x : SV) (v u : Value), x.plain = some v → x.R ρ u → u = v
  | .val _, v, u, h, hr => by
    simp only [SV.plain, Option.some.injEq] at h
    exact hr.trans h
  | .any, _, _, h, _ => by simp [SV.plain] at h
  | .ptr _ _, _, _, h, _ => by simp [SV.plain] at h
  | .sl _ _ _ _, _, _, h, _ => by simp [SV.plain] at h
  | .mp _, _, _, h, _ => by simp [SV.plain] at h
  | .dsl _ _, _, _, h, _ => by simp [SV.plain] at h
  | .dpt _ _ _, _, _, h, _ => by simp [SV.plain] at h
  | .vec _, _, _, h, _ => by simp [SV.plain] at h
  | .wpt _ _ _ _, _, _, h, _ => by simp [SV.plain] at h
  | .emp, _, _, h, _ => by simp [SV.plain] at h
  | .agg l, v, u, h, ⟨us, h1, h2⟩ => by
    simp only [SV.plain, Option.map_eq_some_iff] at h
    obtain ⟨vs, h3, h4⟩ := h
    rw [h1, ← h4, SV.plainL_R l vs us h3 h2]
  | .tup l, v, u, h, ⟨us, h1, h2⟩ => by
    simp only [SV.plain, Option.map_eq_some_iff] at h
    obtain ⟨vs, h3, h4⟩ := h
    rw [h1, ← h4, SV.plainL_R l vs us h3 h2]
  | .clo fn l k, v, u, h, ⟨us, vs, h1, h2, h3⟩ => by
    simp only [SV.plain] at h
    split at h
    · rename_i us' vs' e1 e2
      cases h
      rw [h1, SV.plainL_R l us' us e1 h2, SV.plainL_R k vs' vs e2 h3]
    · cases h
theorem SV.plainL_R {ρ : Ctx} : ∀ (l : List SV) (vs us : List Value), SV.plainL l = some vs → SV.RL ρ l us → us = vs
  | [], vs, us, h, hr => by
    simp only [SV.plainL, Option.some.injEq] at h
    subst h
    exact hr
  | x :: l, vs, us, h, ⟨u, us', h1, h2, h3⟩ => by
    simp only [SV.plainL] at h
    split at h
    · rename_i v vs' e1 e2
      cases h
      rw [h1, SV.plain_R x v u e1 h2, SV.plainL_R l vs' us' e2 h3]
    · cases h
end

theorem SV.RL.length {ρ : Ctx} : ∀ {l : List SV} {us : List Value}, SV.RL ρ l us → us.length = l.length
  | [], _, h => by rw [SV.RL] at h; simp [h]
  | _ :: l, _, ⟨_, _, h1, _, h3⟩ => by simp [h1, SV.RL.length h3]
theorem SV.RL.get {ρ : Ctx} : ∀ {l : List SV} {us : List Value} (_ : SV.RL ρ l us) {i : Nat} {x : SV}, l[i]? = some x → ∃ u, us[i]? = some u ∧ x.R ρ u
  | [], _, _, _, _, h => by simp at h
  | y :: l, _, ⟨u, us', h1, h2, h3⟩, 0, x, h => by
    simp at h
    subst h
    exact ⟨u, by simp [h1], h2⟩
  | y :: l, _, ⟨u, us', h1, h2, h3⟩, i + 1, x, h => by
    obtain ⟨v, hv, hx⟩ := SV.RL.get h3 (i := i) (x := x) (by simpa using h)
    exact ⟨v, by simpa [h1] using hv, hx⟩
theorem SV.RL.set {ρ : Ctx} : ∀ {l : List SV} {us : List Value} (_ : SV.RL ρ l us) (i : Nat) {x : SV} {u : Value}, x.R ρ u → SV.RL ρ (l.set i x) (us.set i u)
  | [], _, h, _, _, _, _ => by rw [SV.RL] at h; subst h; simp [SV.RL]
  | y :: l, _, ⟨v, us', h1, h2, h3⟩, 0, x, u, h => by subst h1; exact ⟨u, us', rfl, h, h3⟩
  | y :: l, _, ⟨v, us', h1, h2, h3⟩, i + 1, x, u, h => by subst h1; exact ⟨v, us'.set i u, rfl, h2, SV.RL.set h3 i h⟩
theorem SV.RL.append {ρ : Ctx} : ∀ {l k : List SV} {us vs : List Value}, SV.RL ρ l us → SV.RL ρ k vs → SV.RL ρ (l ++ k) (us ++ vs)
  | [], _, _, _, h, hk => by rw [SV.RL] at h; subst h; exact hk
  | x :: l, k, _, vs, ⟨u, us', h1, h2, h3⟩, hk => by subst h1; exact ⟨u, us' ++ vs, rfl, h2, SV.RL.append h3 hk⟩
theorem SV.RL.drop {ρ : Ctx} : ∀ {l : List SV} {us : List Value} (_ : SV.RL ρ l us) (n : Nat), SV.RL ρ (l.drop n) (us.drop n)
  | _, _, h, 0 => by simpa using h
  | [], _, h, n + 1 => by rw [SV.RL] at h; subst h; simp [SV.RL]
  | x :: l, _, ⟨u, us', h1, _, h3⟩, n + 1 => by subst h1; simpa using SV.RL.drop h3 n
theorem SV.RL.take {ρ : Ctx} : ∀ {l : List SV} {us : List Value} (_ : SV.RL ρ l us) (n : Nat), SV.RL ρ (l.take n) (us.take n)
  | _, _, _, 0 => by simp [SV.RL]
  | [], _, h, n + 1 => by rw [SV.RL] at h; subst h; simp [SV.RL]
  | x :: l, _, ⟨u, us', h1, h2, h3⟩, n + 1 => by subst h1; exact ⟨u, us'.take n, by simp, h2, SV.RL.take h3 n⟩
theorem SV.RL.replicate {ρ : Ctx} (v : Value) : ∀ n, SV.RL ρ (List.replicate n (.val v)) (List.replicate n v)
  | 0 => by simp [SV.RL]
  | n + 1 => by
    rw [List.replicate_succ, List.replicate_succ]
    exact ⟨v, _, rfl, rfl, SV.RL.replicate v n⟩
theorem SV.RL.vals {ρ : Ctx} : ∀ us : List Value, SV.RL ρ (us.map .val) us
  | [] => rfl
  | u :: us => ⟨u, us, rfl, rfl, SV.RL.vals us⟩

/-- a block of ours -/
inductive Blk where
  | dead
  | cells (l : List SV) (t : TypeId) (wr : Bool)
  | mp (l : List (Value × SV))
  | vec (t : Ty) (l : List t.den) (w : Bool := false)
  | pm (kt vt : Ty) (l : List (kt.den × vt.den))
/-- a plain value of one cell -/
def valT : (t : Ty) → t.den → Value
  | .int k, x => .int k x
  | .str, x => .string x
  | .bool, x => .bool x
  | _, _ => .tuple #[]
/-- the entries of a map of plain values -/
def PL (kt vt : Ty) : List (kt.den × vt.den) → List MapEntry → Prop
  | [], es => es = []
  | kv :: l, es => ∃ e es', es = e :: es' ∧ e.key = valT kt kv.1 ∧ e.val = valT vt kv.2 ∧ PL kt vt l es'
def KL (ρ : Ctx) : List (Value × SV) → List MapEntry → Prop
  | [], es => es = []
  | kv :: l, es => ∃ e es', es = e :: es' ∧ e.key = kv.1 ∧ kv.2.R ρ e.val ∧ KL ρ l es'
theorem KL.mono {ρ ρ' : Ctx} (h : Le ρ ρ') : ∀ {l : List (Value × SV)} {es : List MapEntry}, KL ρ l es → KL ρ' l es
  | [], _, hh => hh
  | _ :: _, _, ⟨e, es', h1, h2, h3, h4⟩ => ⟨e, es', h1, h2, SV.R.mono h _ _ h3, KL.mono h h4⟩
/-- an object of the heap is az the block says -/
def Blk.O (ρ : Ctx) : Blk → Obj → Prop
  | .dead, _ => True
  | .cells l t _, o => ∃ us, o = .cells us.toArray t (0, 0) ∧ SV.RL ρ l us
  | .mp l, o => ∃ es c, o = .map es.toArray c ∧ KL ρ l es
  | .vec _ _ _, _ => True
  | .pm kt vt l, o => ∃ es c, o = .map es.toArray c ∧ PL kt vt l es
theorem Blk.O.mono {ρ ρ' : Ctx} (h : Le ρ ρ') {b : Blk} {o : Obj} (hh : b.O ρ o) : b.O ρ' o := by
  cases b with
  | dead => trivial
  | cells l t u => obtain ⟨us, h1, h2⟩ := hh; exact ⟨us, h1, SV.RL.mono h _ _ h2⟩
  | mp l => obtain ⟨es, c, h1, h2⟩ := hh; exact ⟨es, c, h1, KL.mono h h2⟩
  | vec t l => trivial
  | pm kt vt l => exact hh
def Blk.R (ρ : Ctx) (w : World) (r : Nat) (b : Blk) : Prop := ∀ o, w.heap[r]? = some o → b.O ρ o
def Blk.live : Blk → Bool
  | .dead => false
  | .cells _ _ m => m
  | .mp _ => true
  | .pm _ _ _ => true
  | .vec _ _ _ => false
/-- neither a list of ours nor standing still -/
def Blk.flat : Blk → Bool
  | .dead => true
  | .cells _ _ m => m
  | .mp _ => true
  | .pm _ _ _ => true
  | .vec _ _ _ => false

/-- what is known of memory that came in -/
structure Rd where
  okS : Addr → Bool
  s : Addr → ByteArray
  okI : IntKind → Addr → Bool
  i : IntKind → Addr → Int
  okB : Addr → Bool
  b : Addr → Bool
  okL : Addr → Bool
  l : Addr → Option Addr
  ln : Addr → Nat
  lc : Addr → Nat
/-- it is so in a world, but for some blocks -/
structure Rd.Ok (rd : Rd) (w : World) (S : Nat → Prop) : Prop where
  s : ∀ a, rd.okS a = true → w.cell? a = some (.string (rd.s a)) ∧ ¬ S a.block
  i : ∀ k a, rd.okI k a = true → w.cell? a = some (.int k (rd.i k a)) ∧ ¬ S a.block
  b : ∀ a, rd.okB a = true → w.cell? a = some (.bool (rd.b a)) ∧ ¬ S a.block
  l : ∀ a, rd.okL a = true → w.cell? a = some (.slice (rd.l a) (rd.ln a) (rd.lc a)) ∧ ¬ S a.block
/-- the run's surroundings: the world in which it began, the blocks that came in -/
structure Env where
  w0 : World
  S : Nat → Prop
  ρ0 : Ctx
  rd : Rd
  ok : rd.Ok w0 S
structure Kept (E : Env) (w : World) : Prop where
  os : w.os = E.w0.os
  tape : w.tape = E.w0.tape
  output : w.output = E.w0.output
  size : E.w0.heap.size ≤ w.heap.size
  block : ∀ k : Nat, k < E.w0.heap.size → ¬ E.S k → w.heap[k]? = E.w0.heap[k]?
theorem cell_lt {w : World} {a : Addr} {v : Value} (h1 : w.cell? a = some v) : a.block < w.heap.size := by
  rcases Nat.lt_or_ge a.block w.heap.size with h3 | h3
  · exact h3
  · simp [World.cell?, Array.getElem?_eq_none h3] at h1
theorem cell_eq {w w' : World} {a : Addr} (h : w'.heap[a.block]? = w.heap[a.block]?) : w'.cell? a = w.cell? a := by
  unfold World.cell?
  rw [h]
theorem Kept.cell {E : Env} {w : World} (h : Kept E w) {a : Addr} {v : Value} (h1 : E.w0.cell? a = some v) (h2 : ¬ E.S a.block) : w.cell? a = some v := by
  rw [← h1]
  exact cell_eq (h.block _ (cell_lt h1) h2)
theorem Kept.read {E : Env} {w : World} (h : Kept E w) : E.rd.Ok w (fun _ => False) :=
  ⟨fun a ha => ⟨h.cell (E.ok.s a ha).1 (E.ok.s a ha).2, id⟩, fun k a ha => ⟨h.cell (E.ok.i k a ha).1 (E.ok.i k a ha).2, id⟩, fun a ha => ⟨h.cell (E.ok.b a ha).1 (E.ok.b a ha).2, id⟩, fun a ha => ⟨h.cell (E.ok.l a ha).1 (E.ok.l a ha).2, id⟩⟩
/-- the block of a slice -/
def vblk : Value → Option Nat
  | .slice (some a) _ _ => some a.block
  | _ => none
/-- the cells of a list -/
def Row (z : Nat → Nat → Option Value) (t : Ty) (l : List t.den) (cs : List Value) : Prop :=
  ∃ dss : List (List Value), cs = dss.flatten ∧ dss.length = l.length ∧ ∀ (i : Nat) (x : t.den), l[i]? = some x → ∃ ds, dss[i]? = some ds ∧ HC z t x ds
theorem Row.mono {z z' : Nat → Nat → Option Value} (hz : ∀ r o u, z r o = some u → z' r o = some u) {t : Ty} {l : List t.den} {cs : List Value} (h : Row z t l cs) : Row z' t l cs := by
  obtain ⟨dss, h1, h2, h3⟩ := h
  exact ⟨dss, h1, h2, fun i x hx => by obtain ⟨ds, h4, h5⟩ := h3 i x hx; exact ⟨ds, h4, HC.mono hz t x ds h5⟩⟩
theorem flatten_get {α : Type} {k : Nat} : ∀ (dss : List (List α)), (∀ d ∈ dss, d.length = k) → ∀ (i : Nat) (ds : List α), dss[i]? = some ds → ∀ (j : Nat) (y : α), ds[j]? = some y → dss.flatten[i * k + j]? = some y
  | [], _, i, ds, h, j, y, _ => by simp at h
  | d :: dss, hk, i, ds, h, j, y, hy => by
    have hd := hk d (by simp)
    cases i with
    | zero =>
      simp at h
      subst h
      have hlt := (List.getElem?_eq_some_iff.1 hy).1
      rw [List.flatten_cons, Nat.zero_mul, Nat.zero_add, List.getElem?_append_left hlt]
      exact hy
    | succ i =>
      rw [List.flatten_cons, List.getElem?_append_right (by rw [hd, Nat.add_mul]; omega)]
      have := flatten_get dss (fun x hx => hk x (by simp [hx])) i ds (by simpa using h) j y hy
      rw [hd, show (i + 1) * k + j - k = i * k + j by rw [Nat.add_mul]; omega]
      exact this
theorem flatten_len {α : Type} {k : Nat} : ∀ (dss : List (List α)), (∀ d ∈ dss, d.length = k) → dss.flatten.length = dss.length * k
  | [], _ => by simp
  | d :: dss, hk => by
    rw [List.flatten_cons, List.length_append, flatten_len dss (fun x hx => hk x (by simp [hx])), hk d (by simp), List.length_cons, Nat.add_mul]
    omega
theorem Row.uni {z : Nat → Nat → Option Value} {t : Ty} {l : List t.den} {dss : List (List Value)} (h1 : dss.length = l.length) (h2 : ∀ (i : Nat) (x : t.den), l[i]? = some x → ∃ ds, dss[i]? = some ds ∧ HC z t x ds) : ∀ d ∈ dss, d.length = t.size := fun d hd => by
  obtain ⟨i, hi, he⟩ := List.getElem_of_mem hd
  have hl : i < l.length := by omega
  obtain ⟨ds, h3, h4⟩ := h2 i l[i] (List.getElem?_eq_getElem hl)
  rw [List.getElem?_eq_getElem hi, he] at h3
  cases h3
  exact HC.length _ _ _ h4
theorem Row.len {z : Nat → Nat → Option Value} {t : Ty} {l : List t.den} {cs : List Value} (h : Row z t l cs) : cs.length = l.length * t.size := by
  obtain ⟨dss, rfl, h1, h2⟩ := h
  rw [flatten_len dss (Row.uni h1 h2), h1]
theorem Row.get {z : Nat → Nat → Option Value} {t : Ty} {l : List t.den} {cs : List Value} (h : Row z t l cs) {i : Nat} {x : t.den} (hx : l[i]? = some x) : ∃ ds, HC z t x ds ∧ ∀ j y, ds[j]? = some y → cs[i * t.size + j]? = some y := by
  obtain ⟨dss, rfl, h1, h2⟩ := h
  obtain ⟨ds, h3, h4⟩ := h2 i x hx
  exact ⟨ds, h4, fun j y hy => flatten_get dss (Row.uni h1 h2) i ds h3 j y hy⟩
/-- what is known of a list's block: its elements stand still; or nobody else knows of them -/
def VecZ (z : Nat → Nat → Option Value) (t : Ty) (l : List t.den) (b : Bool) (r c : Nat) (us : Array Value) : Prop :=
  (b = false → ∀ o x, z r o = some x → o < l.length * t.size) ∧ (b = true → (∀ o, z r o = none) ∧ l.length ≤ c ∧ ∃ cs, Row z t l cs ∧ ∀ (j : Nat) (y : Value), cs[j]? = some y → us[j]? = some y)
theorem VecZ.mono {z z' : Nat → Nat → Option Value} {t : Ty} {l : List t.den} {b : Bool} {r c : Nat} {us : Array Value} (h : VecZ z t l b r c us) (h1 : ∀ r o u, z r o = some u → z' r o = some u) (h2 : ∀ o x, z' r o = some x → z r o = some x) : VecZ z' t l b r c us :=
  ⟨fun hb o x hx => h.1 hb o x (h2 o x hx), fun hb => by
    obtain ⟨h3, h4, cs, h5, h6⟩ := h.2 hb
    refine ⟨fun o => ?_, h4, cs, h5.mono h1, h6⟩
    cases hz : z' r o with
    | none => rfl
    | some x => have := h2 o x hz; rw [h3 o] at this; cases this⟩
/-- a list of ours: its elements stand still, what lies behind them in its block is ours; or all of the block is ours -/
def VecOk (E : Env) (ρ : Ctx) (m : List Blk) (w : World) (t : Ty) (l : List t.den) (b : Bool) (u : Value) : Prop :=
  (b = false → HC ρ.z (.sl t) l [u]) ∧ ((u = .slice none 0 0 ∧ l = [] ∧ b = false) ∨ ∃ r c us ty, u = .slice (some ⟨r, 0, none⟩) l.length c ∧ w.heap[r]? = some (.cells us ty (0, 0)) ∧ us.size = c * t.size ∧ E.w0.heap.size ≤ r ∧
    (∀ (i : Nat) (b : Blk), m[i]? = some b → ρ.b i = some r → b = .dead) ∧ VecZ ρ.z t l b r c us)
structure Mem (E : Env) (ρ : Ctx) (m : List Blk) (w : World) : Prop where
  dom : ∀ i r : Nat, ρ.b i = some r → i < m.length
  ok : ∀ (i : Nat) (b : Blk) (r : Nat), m[i]? = some b → ρ.b i = some r → b.R ρ w r
  lt : ∀ i r : Nat, ρ.b i = some r → r < w.heap.size
  inj : ∀ i j r : Nat, ρ.b i = some r → ρ.b j = some r → i = j
  own : ∀ (i : Nat) (b : Blk) (r : Nat), m[i]? = some b → ρ.b i = some r → b.live = true → E.w0.heap.size ≤ r
  kept : Kept E w
  pre : Le E.ρ0 ρ
  new : ∀ i r : Nat, ρ.b i = some r → E.ρ0.b i = some r ∨ E.w0.heap.size ≤ r
  vdom : ∀ (i : Nat) (u : Value), ρ.v i = some u → i < m.length
  vok : ∀ (i : Nat) (t : Ty) (l : List t.den) (b : Bool) (u : Value), m[i]? = some (.vec t l b) → ρ.v i = some u → VecOk E ρ m w t l b u
  vinj : ∀ (i j : Nat) (t : Ty) (l : List t.den) (b : Bool) (t' : Ty) (l' : List t'.den) (b' : Bool) (u u' : Value) (r : Nat), m[i]? = some (.vec t l b) → m[j]? = some (.vec t' l' b') → ρ.v i = some u → ρ.v j = some u' → vblk u = some r → vblk u' = some r → i = j
  zok : ∀ (r o : Nat) (x : Value), ρ.z r o = some x → w.cell? ⟨r, o, none⟩ = some x
  zown : ∀ (i : Nat) (b : Blk) (r o : Nat), m[i]? = some b → ρ.b i = some r → b.live = true → ρ.z r o = none
  zfro : ∀ (i : Nat) (l : List SV) (t : TypeId) (r o : Nat) (x : Value), m[i]? = some (.cells l t false) → ρ.b i = some r → w.cell? ⟨r, o, none⟩ = some x → ρ.z r o = some x
  znew : ∀ (r o : Nat) (x : Value), ρ.z r o = some x → r < E.w0.heap.size → E.ρ0.z r o = some x

theorem Mem.get {E : Env} {ρ : Ctx} {m : List Blk} {w : World} (h : Mem E ρ m w) {i r : Nat} {b : Blk} (hm : m[i]? = some b) (hr : ρ.b i = some r) : ∃ o, w.heap[r]? = some o ∧ b.O ρ o :=
  ⟨w.heap[r]'(h.lt i r hr), Array.getElem?_eq_getElem _, h.ok i b r hm hr _ (Array.getElem?_eq_getElem _)⟩
/-- what an operation that only reads must know -/
structure View (E : Env) (ρ : Ctx) (m : List Blk) (w : World) : Prop where
  obj : ∀ {i r : Nat} {b : Blk}, m[i]? = some b → ρ.b i = some r → b = .dead ∨ ∃ o, w.heap[r]? = some o ∧ b.O ρ o
  kept : Kept E w
  zok : ∀ (r o : Nat) (x : Value), ρ.z r o = some x → w.cell? ⟨r, o, none⟩ = some x
  vec : ∀ (i : Nat) (t : Ty) (l : List t.den) (u : Value), m[i]? = some (.vec t l) → ρ.v i = some u → HC ρ.z (.sl t) l [u]
  vlen : ∀ (i : Nat) (t : Ty) (l : List t.den) (b : Bool) (u : Value), m[i]? = some (.vec t l b) → ρ.v i = some u → ∃ a c, u = .slice a l.length c ∧ (l ≠ [] → ∃ r, a = some ⟨r, 0, none⟩)
  elem : ∀ (i : Nat) (t : Ty) (l : List t.den) (b : Bool) (r n c : Nat), m[i]? = some (.vec t l b) → ρ.v i = some (.slice (some ⟨r, 0, none⟩) n c) → ∀ (k : Nat) (x : t.den), l[k]? = some x → ∃ ds, HC ρ.z t x ds ∧ ∀ (j : Nat) (y : Value), ds[j]? = some y → w.cell? ⟨r, k * t.size + j, none⟩ = some y
theorem View.get {E : Env} {ρ : Ctx} {m : List Blk} {w : World} (h : View E ρ m w) {i r : Nat} {b : Blk} (hm : m[i]? = some b) (hr : ρ.b i = some r) (hd : b ≠ .dead := by intro h; cases h) : ∃ o, w.heap[r]? = some o ∧ b.O ρ o :=
  (h.obj hm hr).resolve_left hd
theorem Mem.vlen {E : Env} {ρ : Ctx} {m : List Blk} {w : World} (h : Mem E ρ m w) (i : Nat) (t : Ty) (l : List t.den) (b : Bool) (u : Value) (h1 : m[i]? = some (.vec t l b)) (h2 : ρ.v i = some u) : ∃ a c, u = .slice a l.length c ∧ (l ≠ [] → ∃ r, a = some ⟨r, 0, none⟩) := by
  obtain ⟨_, g⟩ := h.vok i t l b u h1 h2
  rcases g with ⟨rfl, rfl, _⟩ | ⟨r, c, us, ty, rfl, _⟩
  · exact ⟨none, 0, rfl, fun h => absurd rfl h⟩
  · exact ⟨_, c, rfl, fun _ => ⟨r, rfl⟩⟩
theorem Mem.elem {E : Env} {ρ : Ctx} {m : List Blk} {w : World} (h : Mem E ρ m w) (i : Nat) (t : Ty) (l : List t.den) (b : Bool) (r n c : Nat) (h1 : m[i]? = some (.vec t l b)) (h2 : ρ.v i = some (.slice (some ⟨r, 0, none⟩) n c)) (k : Nat) (x : t.den) (hx : l[k]? = some x) :
    ∃ ds, HC ρ.z t x ds ∧ ∀ (j : Nat) (y : Value), ds[j]? = some y → w.cell? ⟨r, k * t.size + j, none⟩ = some y := by
  obtain ⟨g0, g⟩ := h.vok i t l b _ h1 h2
  rcases g with ⟨e, _⟩ | ⟨r', c', us, ty, e, k2, k3, k4, k5, k6⟩
  · cases e
  · cases e
    cases b with
    | false =>
      obtain ⟨base, c2, e1, e2, e3⟩ := g0 rfl
      rcases e3 with ⟨r2, off, e4, e5⟩ | ⟨e4, _⟩
      · subst e4
        simp only [List.cons.injEq, Value.slice.injEq, Option.some.injEq, Addr.mk.injEq, and_true] at e1
        obtain ⟨⟨rfl, rfl⟩, _⟩ := e1
        obtain ⟨ds, h3, h4⟩ := e5 k x hx
        refine ⟨ds, h4, fun j y hy => ?_⟩
        have := h.zok _ _ _ (h3 j y hy)
        rwa [Nat.zero_add] at this
      · rw [e4] at hx; simp at hx
    | true =>
      obtain ⟨_, _, cs, h3, h4⟩ := k6.2 rfl
      obtain ⟨ds, h5, h6⟩ := h3.get hx
      refine ⟨ds, h5, fun j y hy => ?_⟩
      have := h4 _ _ (h6 j y hy)
      simp [World.cell?, k2, this]
theorem Mem.view {E : Env} {ρ : Ctx} {m : List Blk} {w : World} (h : Mem E ρ m w) : View E ρ m w := ⟨fun hm hr => .inr (h.get hm hr), h.kept, h.zok, fun i t l u h1 h2 => (h.vok i t l false u h1 h2).1 rfl, h.vlen, h.elem⟩
theorem Mem.drawn {E : Env} {ρ : Ctx} {m : List Blk} {w : World} (h : Mem E ρ m w) (n : Nat) : Mem E ρ m { w with drawn := n } :=
  ⟨h.dom, fun i b r h1 h2 => h.ok i b r h1 h2, h.lt, h.inj, h.own, ⟨h.kept.os, h.kept.tape, h.kept.output, h.kept.size, h.kept.block⟩, h.pre, h.new, h.vdom, h.vok, h.vinj, h.zok, h.zown, h.zfro, h.znew⟩
theorem VecOk.heap {E : Env} {ρ : Ctx} {m : List Blk} {w w' : World} {t : Ty} {l : List t.den} {b : Bool} {u : Value} (h : VecOk E ρ m w t l b u) (hw : ∀ r : Nat, r < w.heap.size → E.w0.heap.size ≤ r → (∀ (i : Nat) (b : Blk), m[i]? = some b → ρ.b i = some r → b = .dead) → w'.heap[r]? = w.heap[r]?) : VecOk E ρ m w' t l b u :=
  ⟨h.1, h.2.imp id fun ⟨r, c, us, ty, h1, h2, h3, h4, h5, h6⟩ => ⟨r, c, us, ty, h1, by
    have hlt : r < w.heap.size := by
      rcases Nat.lt_or_ge r w.heap.size with h7 | h7
      · exact h7
      · rw [Array.getElem?_eq_none h7] at h2; cases h2
    rw [hw r hlt h4 h5]; exact h2, h3, h4, h5, h6⟩⟩
/-- what a callee does that touches nothing of ours, and leaves some cells that stand still -/
theorem Mem.belowZ {E : Env} {ρ : Ctx} {m : List Blk} {w w' : World} (h : Mem E ρ m w) (hb : Below w.heap.size w w') {z' : Nat → Nat → Option Value} (h1 : ∀ r o x, ρ.z r o = some x → z' r o = some x)
    (h2 : ∀ r o x, z' r o = some x → w'.cell? ⟨r, o, none⟩ = some x) (h3 : ∀ r o x, z' r o = some x → r < w.heap.size → ρ.z r o = some x) : Le ρ ⟨ρ.b, ρ.v, z'⟩ ∧ Mem E ⟨ρ.b, ρ.v, z'⟩ m w' := by
  have le : Le ρ ⟨ρ.b, ρ.v, z'⟩ := ⟨fun _ _ h => h, fun _ _ h => h, h1⟩
  refine ⟨le, h.dom, fun i b r h1 h2 o ho => ?_, fun i r h1 => Nat.lt_of_lt_of_le (h.lt i r h1) hb.size, h.inj, h.own, ?_, h.pre.trans le, h.new, h.vdom, fun i t l b u h4 h5 => ?_, h.vinj, h2, fun i b r o h4 h5 h6 => ?_, fun i l t r o x h4 h5 h6 => ?_, fun r o x h4 h5 => h.znew r o x (h3 r o x h4 (Nat.lt_of_lt_of_le h5 h.kept.size)) h5⟩
  · exact (h.ok i b r h1 h2 o ((hb.block r (h.lt i r h2)).symm.trans ho)).mono le
  · exact ⟨hb.os.trans h.kept.os, hb.tape.trans h.kept.tape, hb.output.trans h.kept.output, Nat.le_trans h.kept.size hb.size,
      fun k hk hS => (hb.block k (Nat.lt_of_lt_of_le hk h.kept.size)).trans (h.kept.block k hk hS)⟩
  · obtain ⟨g1, g2⟩ := (h.vok i t l b u h4 h5).heap (w' := w') fun r hr _ _ => hb.block r hr
    refine ⟨fun hb => HC.mono h1 _ _ _ (g1 hb), g2.imp id fun ⟨r, c, us, ty, k1, k2, k3, k4, k5, k6⟩ => ⟨r, c, us, ty, k1, k2, k3, k4, k5, k6.mono h1 fun o x hx => ?_⟩⟩
    rcases Nat.lt_or_ge r w.heap.size with h7 | h7
    · exact h3 r o x hx h7
    · exfalso
      obtain ⟨_, q2⟩ := h.vok i t l b u h4 h5
      rcases q2 with ⟨q2, _⟩ | ⟨r', c', us', ty', e1, e2, _⟩
      · rw [q2] at k1; cases k1
      · rw [e1] at k1
        cases k1
        rw [Array.getElem?_eq_none h7] at e2
        cases e2
  · cases hz : z' r o with
    | none => exact hz
    | some x =>
      have := h.zown i b r o h4 h5 h6
      rw [h3 r o x hz (h.lt i r h5)] at this
      cases this
  · exact h1 _ _ _ (h.zfro i l t r o x h4 h5 (by rw [← h6]; exact (cell_eq (hb.block r (h.lt i r h5))).symm))
theorem Mem.below {E : Env} {ρ : Ctx} {m : List Blk} {w w' : World} (h : Mem E ρ m w) (hb : Below w.heap.size w w') : Mem E ρ m w' :=
  (h.belowZ hb (z' := ρ.z) (fun _ _ _ h => h) (fun r o x hx => by
    have h1 := h.zok r o x hx
    rw [cell_eq (hb.block r (cell_lt h1))]
    exact h1) (fun _ _ _ h _ => h)).2

/-- one block more has a number -/
def ext (ρ : Ctx) (n r : Nat) : Ctx := ⟨fun i => if i = n then some r else ρ.b i, ρ.v, ρ.z⟩
theorem ext_le {ρ : Ctx} {n r : Nat} (h : ρ.b n = none) : Le ρ (ext ρ n r) := ⟨fun i b hi => by
  unfold ext
  simp only
  split
  · rename_i e; subst e; rw [h] at hi; cases hi
  · exact hi, fun _ _ h => h, fun _ _ _ h => h⟩
theorem ext_some {ρ : Ctx} {n r i x : Nat} (h : (ext ρ n r).b i = some x) : (i ≠ n ∧ ρ.b i = some x) ∨ (i = n ∧ x = r) := by
  unfold ext at h
  simp only at h
  split at h
  · rename_i e; exact .inr ⟨e, (Option.some.inj h).symm⟩
  · rename_i e; exact .inl ⟨e, h⟩
theorem ext_at (ρ : Ctx) (n r : Nat) : (ext ρ n r).b n = some r := if_pos rfl
/-- a new block at a place that has no number yet -/
theorem Mem.newAt {E : Env} {ρ : Ctx} {m : List Blk} {w : World} (h : Mem E ρ m w) {b1 : Blk} {o1 : Obj} (hl : b1.O ρ o1) {n : Nat} (hn : ρ.b n = none) {m' : List Blk}
    (hlen : ∀ i, i < m.length → i < m'.length) (hm' : ∀ i b, i ≠ n → m'[i]? = some b → i < m.length → m[i]? = some b) (hmn : m'[n]? = some b1) (hflat : b1.flat = true := by rfl) :
    Mem E (ext ρ n w.heap.size) m' { w with heap := w.heap.push o1 } := by
  have mono := ext_le (r := w.heap.size) hn
  have old : ∀ k : Nat, k < w.heap.size → (w.heap.push o1)[k]? = w.heap[k]? := fun k hk => by
    rw [Array.getElem?_push]; simp; omega
  have vold : ∀ (i : Nat) (t : Ty) (l : List t.den) (b : Bool) (u : Value), m'[i]? = some (.vec t l b) → ρ.v i = some u → m[i]? = some (.vec t l b) := fun i t l b u h1 h2 => by
    by_cases hi : i = n
    · subst hi; rw [hmn] at h1; cases h1; cases hflat
    · exact hm' i _ hi h1 (h.vdom i u h2)
  refine ⟨fun i r h1 => ?_, fun i b r h1 h2 o ho => ?_, fun i r h1 => ?_, fun i j r h1 h2 => ?_, fun i b r h1 h2 h3 => ?_, ?_, ?_, fun i r h1 => ?_, fun i u h1 => hlen i (h.vdom i u h1), fun i t l b u h1 h2 => ?_, fun i j t l b t' l' b' u u' r h1 h2 h3 h4 => h.vinj i j t l b t' l' b' u u' r (vold i t l b u h1 h3) (vold j t' l' b' u' h2 h4) h3 h4, fun r o x hx => ?_, fun i b r o h1 h2 h3 => ?_, fun i l t r o x h1 h2 h3 => ?_, h.znew⟩
  · rcases ext_some h1 with ⟨_, h2⟩ | ⟨hi, _⟩
    · exact hlen i (h.dom i r h2)
    · subst hi; exact (List.getElem?_eq_some_iff.1 hmn).1
  · rcases ext_some h2 with ⟨hne, h2'⟩ | ⟨hi, hr⟩
    · exact (h.ok i b r (hm' i b hne h1 (h.dom i r h2')) h2' o ((old r (h.lt i r h2')).symm.trans ho)).mono mono
    · subst hi; subst hr
      rw [hmn] at h1
      cases h1
      simp at ho
      subst ho
      exact hl.mono mono
  · rcases ext_some h1 with ⟨_, h2⟩ | ⟨_, hr⟩
    · have := h.lt i r h2; simp; omega
    · subst hr; simp
  · rcases ext_some h1 with ⟨_, h3⟩ | ⟨hi, hr⟩ <;> rcases ext_some h2 with ⟨_, h4⟩ | ⟨hj, hr'⟩
    · exact h.inj i j r h3 h4
    · have := h.lt i r h3; omega
    · have := h.lt j r h4; omega
    · omega
  · rcases ext_some h2 with ⟨hne, h2'⟩ | ⟨_, hr⟩
    · exact h.own i b r (hm' i b hne h1 (h.dom i r h2')) h2' h3
    · subst hr; exact h.kept.size
  · refine ⟨h.kept.os, h.kept.tape, h.kept.output, by have := h.kept.size; simp; omega, fun k hk hS => ?_⟩
    rw [old k (Nat.lt_of_lt_of_le hk h.kept.size)]
    exact h.kept.block k hk hS
  · exact h.pre.trans mono
  · rcases ext_some h1 with ⟨_, h2⟩ | ⟨_, hr⟩
    · exact h.new i r h2
    · subst hr; exact .inr h.kept.size
  · obtain ⟨g1, g2⟩ := h.vok i t l b u (vold i t l b u h1 h2) h2
    refine ⟨g1, g2.imp id fun ⟨r, c, us, ty, k1, k2, k3, k4, k5, k6⟩ => ?_⟩
    have hlt : r < w.heap.size := by
      rcases Nat.lt_or_ge r w.heap.size with h7 | h7
      · exact h7
      · rw [Array.getElem?_eq_none h7] at k2; cases k2
    refine ⟨r, c, us, ty, k1, by rw [old r hlt]; exact k2, k3, k4, fun i b h3 h4 => ?_, k6⟩
    rcases ext_some h4 with ⟨hne, h5⟩ | ⟨_, hr⟩
    · exact k5 i b (hm' i b hne h3 (h.dom i r h5)) h5
    · omega
  · have h1 := h.zok r o x hx
    rw [cell_eq (w := w) (old r (cell_lt h1))]
    exact h1
  · rcases ext_some h2 with ⟨hne, h2'⟩ | ⟨_, hr⟩
    · exact h.zown i b r o (hm' i b hne h1 (h.dom i r h2')) h2' h3
    · subst hr
      cases hz : (ext ρ n w.heap.size).z w.heap.size o with
      | none => rfl
      | some x =>
        have h9 : w.heap.size < w.heap.size := cell_lt (h.zok _ o x hz)
        omega
  · rcases ext_some h2 with ⟨hne, h2'⟩ | ⟨hi, _⟩
    · refine h.zfro i l t r o x (hm' i _ hne h1 (h.dom i r h2')) h2' ?_
      rw [← h3]
      exact (cell_eq (w := w) (old r (h.lt i r h2'))).symm
    · subst hi; rw [hmn] at h1; cases h1; cases hflat
theorem Mem.fresh {E : Env} {ρ : Ctx} {m : List Blk} {w : World} (h : Mem E ρ m w) {n : Nat} (hn : m.length ≤ n) : ρ.b n = none := by
  cases hr : ρ.b n with
  | none => rfl
  | some r => have := h.dom n r hr; omega
/-- a new block -/
theorem Mem.make {E : Env} {ρ : Ctx} {m : List Blk} {w : World} (h : Mem E ρ m w) {b1 : Blk} {o1 : Obj} (hl : b1.O ρ o1) (hflat : b1.flat = true := by rfl) :
    Mem E (ext ρ m.length w.heap.size) (m ++ [b1]) { w with heap := w.heap.push o1 } := by
  refine h.newAt hl (h.fresh (Nat.le_refl _)) (fun i hi => by simp; omega) (fun i b hne h1 hi => ?_) (by simp) hflat
  rw [List.getElem?_append_left hi] at h1
  exact h1

/-- a block of ours written anew -/
theorem Mem.write {E : Env} {ρ : Ctx} {m : List Blk} {w : World} (h : Mem E ρ m w) {i r : Nat} {b b1 : Blk} {o1 : Obj} (hm : m[i]? = some b) (hlive : b.live = true)
    (hr : ρ.b i = some r) (hl : b1.O ρ o1) {w' : World} (hw : w' = { w with heap := w.heap.setIfInBounds r o1 }) (hflat : b1.flat = true := by rfl) :
    Mem E ρ (m.set i b1) w' := by
  subst hw
  have other : ∀ k : Nat, k ≠ r → (w.heap.setIfInBounds r o1)[k]? = w.heap[k]? := fun k hk => by
    rw [Array.getElem?_setIfInBounds_ne (Ne.symm hk)]
  have hlt := h.lt i r hr
  have bdead : b ≠ .dead := fun e => by subst e; cases hlive
  have znr : ∀ r' o x, ρ.z r' o = some x → r' ≠ r := fun r' o x hx e => by
    subst e
    rw [h.zown i b r' o hm hr hlive] at hx
    cases hx
  have vold : ∀ (j : Nat) (t : Ty) (l : List t.den) (b : Bool), (m.set i b1)[j]? = some (.vec t l b) → m[j]? = some (.vec t l b) := fun j t l b h1 => by
    rw [List.getElem?_set] at h1
    split at h1
    · split at h1
      · cases h1; cases hflat
      · cases h1
    · exact h1
  refine ⟨fun j r' h1 => by simpa using h.dom j r' h1, fun j b' r' h1 h2 o ho => ?_, fun j r' h1 => by simpa using h.lt j r' h1, h.inj, fun j b' r' h1 h2 h3 => ?_, ?_, h.pre, h.new, fun j u h1 => by simpa using h.vdom j u h1, fun j t l b0 u h1 h2 => ?_, fun j k t l b t' l' b' u u' r h1 h2 h3 h4 => h.vinj j k t l b t' l' b' u u' r (vold j t l b h1) (vold k t' l' b' h2) h3 h4, fun r' o x hx => ?_, fun j b' r' o h1 h2 h3 => ?_, fun j l t r' o x h1 h2 h3 => ?_, h.znew⟩
  · rw [List.getElem?_set] at h1
    split at h1
    · rename_i hij
      subst hij
      have : r' = r := Option.some.inj (h2.symm.trans hr)
      subst this
      split at h1
      · cases h1
        simp [hlt] at ho
        subst ho
        exact hl
      · cases h1
    · rename_i hij
      have hne : r' ≠ r := fun e => hij (h.inj i j r hr (e ▸ h2))
      exact h.ok j b' r' h1 h2 o ((other r' hne).symm.trans ho)
  · rw [List.getElem?_set] at h1
    split at h1
    · rename_i hij
      subst hij
      exact h.own i _ r' hm h2 hlive
    · exact h.own j b' r' h1 h2 h3
  · refine ⟨h.kept.os, h.kept.tape, h.kept.output, by simpa using h.kept.size, fun k hk hS => ?_⟩
    have hne : k ≠ r := by
      rintro rfl
      have := h.own i _ k hm hr hlive
      omega
    rw [other k hne]
    exact h.kept.block k hk hS
  · skip
    obtain ⟨g1, g2⟩ := h.vok j t l b0 u (vold j t l b0 h1) h2
    refine ⟨g1, g2.imp id fun ⟨r', c, us, ty, k1, k2, k3, k4, k5, k6⟩ => ?_⟩
    have hne : r' ≠ r := fun e => bdead (k5 i b hm (e ▸ hr))
    refine ⟨r', c, us, ty, k1, by rw [other r' hne]; exact k2, k3, k4, fun q bq h3 h4 => ?_, k6⟩
    rw [List.getElem?_set] at h3
    split at h3
    · rename_i hq
      subst hq
      exact absurd (Option.some.inj (h4.symm.trans hr)) hne
    · exact k5 q bq h3 h4
  · have h1 := h.zok r' o x hx
    rw [cell_eq (w := w) (other r' (znr r' o x hx))]
    exact h1
  · rw [List.getElem?_set] at h1
    split at h1
    · rename_i hij
      subst hij
      have : r' = r := Option.some.inj (h2.symm.trans hr)
      subst this
      exact h.zown i b r' o hm hr hlive
    · exact h.zown j b' r' o h1 h2 h3
  · rw [List.getElem?_set] at h1
    split at h1
    · split at h1
      · cases h1; cases hflat
      · cases h1
    · rename_i hij
      have hne : r' ≠ r := fun e => hij (h.inj i j r hr (e ▸ h2))
      refine h.zfro j l t r' o x h1 h2 ?_
      rw [← h3]
      exact (cell_eq (w := w) (other r' hne)).symm

end Go.SX

/-
  A symbolic executor: one operation.
-/
namespace Go.SX
open Go.RowKit

/-- what comes of an operation: with branches on tests, and with readings of memory that came in -/
inductive R3 (α : Type) where
  | ok (a : α)
  | br (b : Bool) (x y : R3 α)
  | no
def R3.res {α : Type} : R3 α → Option α
  | .ok a => some a
  | .br b x y => bif b then x.res else y.res
  | .no => none
def R3.k {α β : Type} : R3 α → (α → Option β) → Option β
  | .ok a, f => f a
  | .br b x y, f => bif b then x.k f else y.k f
  | .no, _ => none
theorem R3.k_some {α β : Type} : ∀ (x : R3 α) (f : α → Option β) (b : β), x.k f = some b → ∃ a, x.res = some a ∧ f a = some b
  | .ok a, f, b, h => ⟨a, rfl, h⟩
  | .br true x y, f, b, h => R3.k_some x f b h
  | .br false x y, f, b, h => R3.k_some y f b h
  | .no, f, b, h => by cases h
def R3.bind {α β : Type} : R3 α → (α → R3 β) → R3 β
  | .ok a, f => f a
  | .br b x y, f => .br b (x.bind f) (y.bind f)
  | .no, _ => .no
theorem R3.bind_some {α β : Type} : ∀ (x : R3 α) (f : α → R3 β) (b : β), (x.bind f).res = some b → ∃ a, x.res = some a ∧ (f a).res = some b
  | .ok a, f, b, h => ⟨a, rfl, h⟩
  | .br true x y, f, b, h => R3.bind_some x f b h
  | .br false x y, f, b, h => R3.bind_some y f b h
  | .no, f, b, h => by cases h
def R3.need {α : Type} (b : Bool) (x : R3 α) : R3 α := .br b x .no
theorem R3.need_some {α : Type} {b : Bool} {x : R3 α} {a : α} (h : (R3.need b x).res = some a) : b = true ∧ x.res = some a := by
  cases b
  · cases h
  · exact ⟨rfl, h⟩

/-- an operation's meaning that neither reads nor writes -/
def pureV {α : Type} (P : Program) : Sem α → Option α
  | .pure a => some a
  | .program k => pureV P (k P)
  | .mark _ k => pureV P k
  | _ => none
theorem pureV_run {α : Type} {P : Program} : ∀ (s : Sem α) (a : α), pureV P s = some a → ∀ w, s.run P w = .ok a w
  | .pure a, b, h, w => by simp only [pureV, Option.some.injEq] at h; subst h; rfl
  | .program k, b, h, w => by simpa [Sem.run] using pureV_run (k P) b h w
  | .mark _ k, b, h, w => by simpa [Sem.run] using pureV_run k b h w
  | .load .., _, h, _ => by simp [pureV] at h
  | .store .., _, h, _ => by simp [pureV] at h
  | .new .., _, h, _ => by simp [pureV] at h
  | .shape .., _, h, _ => by simp [pureV] at h
  | .freeze .., _, h, _ => by simp [pureV] at h
  | .frozen .., _, h, _ => by simp [pureV] at h
  | .getObj .., _, h, _ => by simp [pureV] at h
  | .setObj .., _, h, _ => by simp [pureV] at h
  | .choose .., _, h, _ => by simp [pureV] at h
  | .sys .., _, h, _ => by simp [pureV] at h
  | .halt _, _, h, _ => by simp [pureV] at h

def nth {α : Type} : List α → Nat → Option α
  | [], _ => none
  | x :: _, 0 => some x
  | _ :: l, n + 1 => nth l n
theorem nth_eq {α : Type} : ∀ (l : List α) (n : Nat), nth l n = l[n]?
  | [], n => by simp [nth]
  | x :: l, 0 => by simp [nth]
  | x :: l, n + 1 => by simp [nth, nth_eq l n]
def cut {α : Type} (l : List α) (off n : Nat) : List α := (l.drop off).take n
def lay {α : Type} (l : List α) (off : Nat) (cs : List α) : List α := l.take off ++ cs ++ l.drop (off + cs.length)

def isOp : Operand → Bool
  | .tmp _ => true
  | _ => false
def SV.cells : SV → Option (List SV)
  | .agg l => some l
  | .val (.agg cs) => some (cs.toList.map .val)
  | .any => none
  | x => some [x]

/-- a value that a cell may hold -/
def atomic : Value → Bool
  | .agg _ => false
  | .tuple _ => false
  | _ => true
def SV.atom : SV → Bool
  | .val v => atomic v
  | .ptr .. => true
  | .sl .. => true
  | .mp _ => true
  | .clo .. => true
  | .dsl .. => true
  | .dpt .. => true
  | .vec _ => true
  | .wpt .. => true
  | .emp => true
  | _ => false
/-- the cells of a plain value -/
def flatT : (t : Ty) → t.den → List SV
  | .int k, x => [.val (.int k x)]
  | .str, x => [.val (.string x)]
  | .bool, x => [.val (.bool x)]
  | .unit, _ => []
  | .pair a b, x => flatT a x.1 ++ flatT b x.2
  | .sl t, l => [.dsl t l]
/-- so many values, one behind the other -/
def parseN {α : Type} (f : List SV → Option (α × List SV)) : Nat → List SV → Option (List α × List SV)
  | 0, l => some ([], l)
  | n + 1, l => match f l with
    | some (x, r) => match parseN f n r with
      | some (xs, r') => some (x :: xs, r')
      | none => none
    | none => none
/-- a list of plain values -/
def parseS (t : Ty) (f : List SV → Option (t.den × List SV)) (m : List Blk) : SV → Option (List t.den)
  | .dsl t' l => if h : t' = t then some (h ▸ l) else none
  | .vec i => match nth m i with
    | some (.vec t' l) => if h : t' = t then some (h ▸ l) else none
    | _ => none
  | .val (.slice none n c) => if n = 0 ∧ c = 0 then some [] else none
  | .emp => some []
  | .sl i off n c => match nth m i with
    | some (.cells cs _ false) => if n ≤ c then match parseN f n (cut cs off (n * t.size)) with
      | some (l, []) => some l
      | _ => none
      else none
    | _ => none
  | _ => none
/-- a plain value from its cells -/
def parseT : (t : Ty) → List Blk → List SV → Option (t.den × List SV)
  | .int k, _, l => match l with
    | .val (.int k' n) :: r => if k' = k then some (n, r) else none
    | _ => none
  | .str, _, l => match l with
    | .val (.string s) :: r => some (s, r)
    | _ => none
  | .bool, _, l => match l with
    | .val (.bool b) :: r => some (b, r)
    | _ => none
  | .unit, _, l => some ((), l)
  | .pair a b, m, l => match parseT a m l with
    | some (x, r) => match parseT b m r with
      | some (y, r') => some ((x, y), r')
      | none => none
    | none => none
  | .sl t, m, l => match l with
    | v :: r => match parseS t (parseT t m) m v with
      | some xs => some (xs, r)
      | none => none
    | [] => none
/-- the blocks to which a value leads -/
def SV.refs : SV → List Nat
  | .sl i _ _ _ => [i]
  | .ptr i _ => [i]
  | .vec i => [i]
  | .agg l => SV.refsL l
  | .tup l => SV.refsL l
  | .clo _ l k => SV.refsL l ++ SV.refsL k
  | _ => []
where SV.refsL : List SV → List Nat
  | [] => []
  | x :: l => x.refs ++ SV.refsL l
def reach (m : List Blk) : Nat → List SV → List Nat
  | 0, _ => []
  | n + 1, l => l.flatMap fun x => x.refs.flatMap fun i => i :: match nth m i with
    | some (.cells cs _ true) => reach m n cs
    | _ => []
/-- from now on nobody writes them -/
def frz1 (m : List Blk) (i : Nat) : List Blk :=
  match nth m i with
  | some (.cells cs t true) => m.set i (.cells cs t false)
  | some (.vec t l true) => m.set i (.vec t l)
  | _ => m
def frz (m : List Blk) (l : List Nat) : List Blk := l.foldl frz1 m
/-- the plain type of a type -/
def tyOf (P : Program) : Nat → TypeId → Option Ty
  | 0, _ => none
  | n + 1, t => match P.underlying t with
    | some (.int k) => some (.int k)
    | some .string => some .str
    | some .bool => some .bool
    | some (.slice e) => (tyOf P n e).map .sl
    | some (.struct fs) => fs.toList.foldr (fun f r => match tyOf P n f.type, r with | some a, some b => some (.pair a b) | _, _ => none) (some .unit)
    | _ => none

def tyAgg (P : Program) (t : TypeId) : Option Bool := (P.underlying t).map fun | .struct _ | .array _ _ => true | _ => false
def tySize (P : Program) (t : TypeId) : Option Nat := (P.info? t).map (·.size)
def tyZero (P : Program) (t : TypeId) : Option Value := (P.info? t).bind (·.zero)

/-- the reading of a variable of some type in memory that came in -/
def readExt (P : Program) (rd : Rd) (t : TypeId) (a : Addr) (m : List Blk) : R3 (SV × List Blk) :=
  match P.underlying t with
  | some .string => .need (rd.okS a) (.ok (.val (.string (rd.s a)), m))
  | some (.int kd) => .need (rd.okI kd a) (.ok (.val (.int kd (rd.i kd a)), m))
  | some .bool => .need (rd.okB a) (.ok (.val (.bool (rd.b a)), m))
  | some (.slice _) => .need (rd.okL a) (.ok (.val (.slice (rd.l a) (rd.ln a) (rd.lc a)), m))
  | _ => .no
/-- the types of the cells of a variable -/
def flat (P : Program) : Nat → TypeId → Option (List TypeDesc)
  | 0, _ => none
  | n + 1, t => match P.underlying t with
    | some (.struct fields) => fields.toList.foldr (fun f r => match flat P n f.type, r with | some a, some b => some (a ++ b) | _, _ => none) (some [])
    | some (.array _ _) => none
    | some d => some [d]
    | none => none
def readCells (rd : Rd) (a : Addr) : Nat → List TypeDesc → R3 (List SV)
  | _, [] => .ok []
  | j, d :: ds =>
    let b := a.add j
    match d with
    | .string => .need (rd.okS b) ((readCells rd a (j + 1) ds).bind fun l => .ok (.val (.string (rd.s b)) :: l))
    | .int kd => .need (rd.okI kd b) ((readCells rd a (j + 1) ds).bind fun l => .ok (.val (.int kd (rd.i kd b)) :: l))
    | .bool => .need (rd.okB b) ((readCells rd a (j + 1) ds).bind fun l => .ok (.val (.bool (rd.b b)) :: l))
    | .slice _ => .need (rd.okL b) ((readCells rd a (j + 1) ds).bind fun l => .ok (.val (.slice (rd.l b) (rd.ln b) (rd.lc b)) :: l))
    | _ => .no
def readAgg (P : Program) (rd : Rd) (t : TypeId) (a : Addr) (m : List Blk) : R3 (SV × List Blk) :=
  match flat P 8 t, tySize P t with
  | some ds, some n => if ds.length = n then (readCells rd a 0 ds).bind fun l => .ok (.agg l, m) else .no
  | _, _ => .no
def isSel : Op → Bool
  | .select .. => true
  | _ => false

def isAppend (c : Call) : Bool := match c.callee with | .builtin .append => true | _ => false
def isNew : Op → Bool
  | .call c => isAppend c
  | .alloc _ => true
  | .box .. => true
  | .buildSlice .. => true
  | .makeMap _ none => true
  | .makeSlice .. => true
  | _ => false
def isStore : Op → Bool
  | .store .. => true
  | .insert .. => true
  | .mapUpdate .. => true
  | _ => false

def sxPure (P : Program) (o : Oper) (ev : Operand → SV) (m : List Blk) : R3 (SV × List Blk) :=
  if o.op.operands.toList.all (fun x => (ev x).plain.isSome) && !isSel o.op then
    match pureV P (execOp (fun x => (ev x).plain.getD undef) o) with
    | some (.value v) => .ok (.val v, m)
    | _ => .no
  else .no

def sxLoad (P : Program) (rd : Rd) (t : TypeId) (x : SV) (m : List Blk) : R3 (SV × List Blk) :=
  match x with
  | .ptr i off =>
    match nth m i, tyAgg P t, tySize P t with
    | some (.cells l _ _), some true, some n => if (cut l off n).length = n then .ok (.agg (cut l off n), m) else .no
    | some (.cells l _ _), some false, _ => match nth l off with
      | some v => .ok (v, m)
      | none => .no
    | _, _, _ => .no
  | .val (.pointer (some a)) => match tyAgg P t with
    | some false => readExt P rd t a m
    | some true => readAgg P rd t a m
    | none => .no
  | .dpt ty y off => match tyAgg P t, tySize P t with
    | some true, some n => if (cut (flatT ty y) off n).length = n then .ok (.agg (cut (flatT ty y) off n), m) else .no
    | some false, _ => match nth (flatT ty y) off with
      | some v => .ok (v, m)
      | none => .no
    | _, _ => .no
  | .wpt i sz k off => match nth m i with
    | some (.vec ty l _) => if sz = ty.size then match tyAgg P t, tySize P t with
      | some true, some n => if (cut (flatT ty (List.getD l k ty.dflt)) off n).length = n then .need (decide (k < l.length)) (.ok (.agg (cut (flatT ty (List.getD l k ty.dflt)) off n), m)) else .no
      | some false, _ => match nth (flatT ty (List.getD l k ty.dflt)) off with
        | some v => .need (decide (k < l.length)) (.ok (v, m))
        | none => .no
      | _, _ => .no
      else .no
    | _ => .no
  | _ => .no

/-- a block behind a store -/
def stBlk (P : Program) (t : TypeId) (off : Nat) (v : SV) (b : Blk) : Option Blk :=
  match b, v.cells, tySize P t with
  | .cells l ty true, some cs, some n => if decide (cs.length = n) && decide (off + cs.length ≤ l.length) && cs.all SV.atom then some (.cells (lay l off cs) ty true) else none
  | _, _, _ => none
def sxStore (P : Program) (t : TypeId) (x v : SV) (m : List Blk) : R3 (SV × List Blk) :=
  match x with
  | .ptr i off => match nth m i with
    | some b => match stBlk P t off v b with
      | some b' => .ok (.val undef, m.set i b')
      | none => .no
    | none => .no
  | .wpt i sz k off => match nth m i with
    | some (.vec ty l true) => match v.cells, tySize P t with
      | some cs, some n => if sz = ty.size ∧ cs.length = n ∧ off + n ≤ ty.size ∧ cs.all SV.atom = true then match parseT ty m (lay (flatT ty (List.getD l k ty.dflt)) off cs) with
        | some (y, []) => .need (decide (k < l.length)) (.ok (.val undef, m.set i (.vec ty (l.set k y) true)))
        | _ => .no
        else .no
      | _, _ => .no
    | _ => .no
  | _ => .no

/-- a part of a struct -/
def partV (P : Program) (t : TypeId) (cs : Array Value) (off : Nat) : Option Value :=
  match tyAgg P t with
  | some true => (tySize P t).map fun n => .agg (cs.extract off (off + n))
  | some false => cs[off]?
  | none => none
/-- equality of two values of a type, az far az structs of plain fields -/
def eqV (P : Program) : Nat → TypeId → Value → Value → Option Bool
  | 0, _, _, _ => none
  | n + 1, t, x, y =>
    match P.underlying t with
    | some .bool => match x, y with | .bool a, .bool b => some (a == b) | _, _ => none
    | some (.int _) => match x, y with | .int k a, .int k' b => if k = k' then some (a == b) else none | _, _ => none
    | some .string => match x, y with | .string a, .string b => some (a == b) | _, _ => none
    | some (.struct fields) => match x, y with
      | .agg xs, .agg ys => if P.stoodInHeld t then none else
        (fields.toList.foldr (fun f r => if f.name = "_" then none else match partV P f.type xs f.offset, partV P f.type ys f.offset, r with
          | some u, some v, some c => (eqV P n f.type u v).map (· && c)
          | _, _, _ => none) (some true))
      | _, _ => none
    | _ => none
def isStruct (P : Program) (t : TypeId) : Bool := match P.underlying t with | some (.struct _) => true | _ => false
def sxEq (P : Program) (neg : Bool) (t : TypeId) (x y : SV) (m : List Blk) : R3 (SV × List Blk) :=
  match x.plain, y.plain with
  | some (.agg xs), some (.agg ys) => if P.eqGuardType P.depth t then .no else match eqV P 8 t (.agg xs) (.agg ys) with
    | some b => .ok (.val (.bool (bif neg then !b else b)), m)
    | none => .no
  | _, _ => .no
/-- maps whose keys are strings, ints or bools -/
def keyKind : TypeDesc → Bool
  | .string => true
  | .int _ => true
  | .bool => true
  | _ => false
def sxFind (kind : TypeDesc) (k : Value) : List (Value × SV) → R3 (Option SV)
  | [] => .ok none
  | kv :: l => match Instr.sameNow kind k kv.1 with
    | some b => .br b (.ok (some kv.2)) (sxFind kind k l)
    | none => .no
def Ty.simple : Ty → Bool
  | .int _ => true
  | .str => true
  | .bool => true
  | _ => false
def keyEq : (t : Ty) → t.den → t.den → Bool
  | .int _, a, b => a == b
  | .str, a, b => a == b
  | .bool, a, b => a == b
  | _, _, _ => false
/-- what stands at a key -/
def pmGet (kt : Ty) {α : Type} (k : kt.den) : List (kt.den × α) → Option α
  | [] => none
  | p :: l => bif keyEq kt k p.1 then some p.2 else pmGet kt k l
def pmSet (kt : Ty) {α : Type} (k : kt.den) (v : α) : List (kt.den × α) → List (kt.den × α)
  | [] => [(k, v)]
  | p :: l => bif keyEq kt k p.1 then (p.1, v) :: l else p :: pmSet kt k v l
/-- a value az one of a simple type -/
def asT : (t : Ty) → Value → Option t.den
  | .int k, .int k' n => if k' = k then some n else none
  | .str, .string s => some s
  | .bool, .bool b => some b
  | _, _ => none
def kindTy : TypeDesc → Option Ty
  | .string => some .str
  | .int k => some (.int k)
  | .bool => some .bool
  | _ => none
/-- a new map -/
def newMap (P : Program) (t : TypeId) : Blk :=
  match P.underlying t with
  | some (.map k e) => match (P.underlying k).bind kindTy, (P.underlying e).bind kindTy with
    | some kt, some vt => .pm kt vt []
    | _, _ => .mp []
  | _ => .mp []
def sxPmInsert (kt vt : Ty) (l : List (kt.den × vt.den)) (i : Nat) (kind : TypeDesc) (kv : Value) (v : SV) (m : List Blk) : R3 (SV × List Blk) :=
  match kindTy kind, asT kt kv, v with
  | some kt', some k, .val vv => if kt' = kt then match asT vt vv with
    | some x => .ok (.val undef, m.set i (.pm kt vt (pmSet kt k x l)))
    | none => .no
    else .no
  | _, _, _ => .no
def sxPmLookup (P : Program) (kt vt : Ty) (l : List (kt.den × vt.den)) (kind : TypeDesc) (et : TypeId) (kv : Value) (ok : Bool) (m : List Blk) : R3 (SV × List Blk) :=
  match kindTy kind, asT kt kv, tyZero P et with
  | some kt', some k, some z => if kt' = kt then match asT vt z with
    | some z => .ok (bif ok then .tup [.val (valT vt ((pmGet kt k l).getD z)), .val (.bool (pmGet kt k l).isSome)] else .val (valT vt ((pmGet kt k l).getD z)), m)
    | none => .no
    else .no
  | _, _, _ => .no
def sxInsert (P : Program) (t : TypeId) (mp k v : SV) (m : List Blk) : R3 (SV × List Blk) :=
  match P.underlying t, mp, k with
  | some (.map kt _), .mp i, .val kv => match P.underlying kt, nth m i with
    | some kind, some (.mp l) => if keyKind kind then (sxFind kind kv l).bind fun r => match r with
      | none => .ok (.val undef, m.set i (.mp (l ++ [(kv, v)])))
      | some _ => .no
      else .no
    | some kind, some (.pm kt' vt l) => sxPmInsert kt' vt l i kind kv v m
    | _, _ => .no
  | _, _, _ => .no
def sxLookup (P : Program) (t : TypeId) (mp k : SV) (ok : Bool) (m : List Blk) : R3 (SV × List Blk) :=
  match P.underlying t, mp, k with
  | some (.map kt et), .mp i, .val kv => match P.underlying kt, nth m i with
    | some kind, some (.mp l) => if keyKind kind then (sxFind kind kv l).bind fun r => match r with
      | some v => .ok (bif ok then .tup [v, .val (.bool true)] else v, m)
      | none => match tyZero P et with
        | some z => .ok (bif ok then .tup [.val z, .val (.bool false)] else .val z, m)
        | none => .no
      else .no
    | some kind, some (.pm kt' vt l) => sxPmLookup P kt' vt l kind et kv ok m
    | _, _ => .no
  | _, _, _ => .no

def sxPick (t : Bool) (x y : SV) (m : List Blk) : R3 (SV × List Blk) :=
  match x, y with
  | .val (.bool x), .val (.bool y) => .ok (.val (.bool (bif t then x else y)), m)
  | x, y => .br t (.ok (x, m)) (.ok (y, m))
def sxFieldAddr (P : Program) (t : TypeId) (i off f : Nat) (m : List Blk) : R3 (SV × List Blk) :=
  match P.underlying t with
  | some (.struct fs) => match fs[f]? with
    | some fd => match tySize P fd.type with
      | some (_ + 1) => .ok (.ptr i (off + fd.offset), m)
      | _ => .no
    | none => .no
  | _ => .no
def sxFieldAddrW (P : Program) (t : TypeId) (i sz k off f : Nat) (m : List Blk) : R3 (SV × List Blk) :=
  match P.underlying t with
  | some (.struct fs) => match fs[f]? with
    | some fd => match tySize P fd.type with
      | some (_ + 1) => .ok (.wpt i sz k (off + fd.offset), m)
      | _ => .no
    | none => .no
  | _ => .no
def sxFieldAddrD (P : Program) (t : TypeId) (ty : Ty) (y : ty.den) (off f : Nat) (m : List Blk) : R3 (SV × List Blk) :=
  match P.underlying t with
  | some (.struct fs) => match fs[f]? with
    | some fd => match tySize P fd.type with
      | some (_ + 1) => .ok (.dpt ty y (off + fd.offset), m)
      | _ => .no
    | none => .no
  | _ => .no
def sxField (P : Program) (t : TypeId) (l : List SV) (f : Nat) (m : List Blk) : R3 (SV × List Blk) :=
  match P.underlying t with
  | some (.struct fs) => match fs[f]? with
    | some fd => match tyAgg P fd.type, tySize P fd.type with
      | some true, some n => .ok (.agg (cut l fd.offset n), m)
      | some false, _ => match nth l fd.offset with
        | some v => .ok (v, m)
        | none => .no
      | _, _ => .no
    | none => .no
  | _ => .no
def inB (n : Int) (len : Nat) : Bool := decide (0 ≤ n) && decide (n.toNat < len)
def sxIndexAddr (P : Program) (t : TypeId) (x : SV) (n : Int) (m : List Blk) : R3 (SV × List Blk) :=
  match P.underlying t, x with
  | some (.slice e), .sl i off len _ => match tySize P e with
    | some sz => .need (inB n len) (.ok (.ptr i (off + n.toNat * sz), m))
    | none => .no
  | some (.slice e), .val (.slice (some a) len _) => match tySize P e with
    | some sz => .need (inB n len) (.ok (.val (.pointer (some (a.add (n.toNat * sz)))), m))
    | none => .no
  | some (.slice e), .dsl ty l => match tySize P e with
    | some sz => if sz = ty.size then .need (inB n (List.length l)) (.ok (.dpt ty (List.getD l n.toNat ty.dflt) 0, m)) else .no
    | none => .no
  | some (.slice e), .vec i => match tySize P e, nth m i with
    | some sz, some (.vec ty l) => if sz = ty.size then .need (inB n (List.length l)) (.ok (.dpt ty (List.getD l n.toNat ty.dflt) 0, m)) else .no
    | some sz, some (.vec ty l true) => if sz = ty.size then .need (inB n (List.length l)) (.ok (.wpt i sz n.toNat 0, m)) else .no
    | _, _ => .no
  | some (.array len e), .ptr i off => match tySize P e with
    | some sz => .need (inB n len) (.ok (.ptr i (off + n.toNat * sz), m))
    | none => .no
  | _, _ => .no
def sxStrIndex (s : ByteArray) (n : Int) (m : List Blk) : R3 (SV × List Blk) := .need (inB n s.size) (.ok (.val (.int .u8 (s.data.getD n.toNat 0).toNat), m))
def sxSlice (s : ByteArray) (lo hi : Option SV) (m : List Blk) : R3 (SV × List Blk) :=
  match lo, hi with
  | none, none => .ok (.val (.string (s.extract 0 s.size)), m)
  | some (.val (.int _ l)), none => .need (decide (0 ≤ l) && decide (l.toNat ≤ s.size)) (.ok (.val (.string (s.extract l.toNat s.size)), m))
  | none, some (.val (.int _ h)) => .need (decide (0 ≤ h) && decide (h.toNat ≤ s.size)) (.ok (.val (.string (s.extract 0 h.toNat)), m))
  | some (.val (.int _ l)), some (.val (.int _ h)) => .need (decide (0 ≤ l) && decide (0 ≤ h) && decide (l.toNat ≤ h.toNat) && decide (h.toNat ≤ s.size)) (.ok (.val (.string (s.extract l.toNat h.toNat)), m))
  | _, _ => .no
/-- a part of a list -/
def sxPart (t : Ty) (l : List t.den) (lo hi : Option SV) (m : List Blk) : R3 (SV × List Blk) :=
  match lo, hi with
  | none, none => .ok (.dsl t l, m)
  | none, some (.val (.int _ h)) => .need (decide (0 ≤ h) && decide (h.toNat ≤ l.length)) (.ok (.dsl t (l.take h.toNat), m))
  | some (.val (.int _ b)), none => .need (decide (0 ≤ b) && decide (b.toNat ≤ l.length)) (.ok (.dsl t (l.drop b.toNat), m))
  | some (.val (.int _ b)), some (.val (.int _ h)) => .need (decide (0 ≤ b) && decide (0 ≤ h) && decide (b.toNat ≤ h.toNat) && decide (h.toNat ≤ l.length)) (.ok (.dsl t ((l.take h.toNat).drop b.toNat), m))
  | _, _ => .no
def sxCut (P : Program) (t : TypeId) (x : SV) (lo hi : Option SV) (m : List Blk) : R3 (SV × List Blk) :=
  match P.underlying t with
  | some (.slice e) => match tySize P e, x with
    | some sz, .dsl ty l => if sz = ty.size then sxPart ty l lo hi m else .no
    | some sz, .vec i => match nth m i with
      | some (.vec ty l) => if sz = ty.size then sxPart ty l lo hi m else .no
      | _ => .no
    | _, _ => .no
  | _ => .no
def isZeroV : SV → Bool
  | .val (.int _ 0) => true
  | _ => false
def loZero : Option SV → Bool
  | none => true
  | some l => isZeroV l
/-- no element, no room -/
def sxEmp (P : Program) (t : TypeId) (x : SV) (lo hi : Option SV) (mx : SV) (m : List Blk) : R3 (SV × List Blk) :=
  match P.underlying t, hi with
  | some (.slice e), some h => match tySize P e with
    | some _ => if (loZero lo && isZeroV h && isZeroV mx) = true then match x with
      | .dsl _ _ => .ok (.emp, m)
      | .val (.slice none 0 0) => .ok (.emp, m)
      | .emp => .ok (.emp, m)
      | _ => .no
      else .no
    | none => .no
  | _, _ => .no
def sxDiv (rem : Bool) (x y : SV) (m : List Blk) : R3 (SV × List Blk) :=
  match x, y with
  | .val (.int k a), .val (.int k' b) => .need (decide (k = k') && !decide (b = 0)) (.ok (.val (.int k (bif rem then a.tmod b else k.wrap (a.tdiv b))), m))
  | _, _ => .no
def sxBuildSlice (P : Program) (t : TypeId) (n : Nat) (ixs : List Nat) (css : Option (List (List SV))) (m : List Blk) : R3 (SV × List Blk) :=
  match P.underlying t, css with
  | some (.slice e), some css => match tySize P e with
    | some sz => if css.all (fun c => c.length == sz) && ixs == List.range n && css.length == n && decide (n * sz ≤ 2 ^ 24) && (decide (0 < n * sz) || n == 0) && (tyZero P e).isSome then .ok (.sl m.length 0 n n, m ++ [.cells css.flatten e true]) else .no
    | none => .no
  | _, _ => .no
def sxLen (P : Program) (t : Option TypeId) (x : SV) (m : List Blk) : Option (R3 (SV × List Blk)) :=
  match t.bind P.underlying, x with
  | some (.slice _), .sl _ _ n _ => some (.ok (.val (.int .i64 n), m))
  | some (.slice _), .val (.slice _ n _) => some (.ok (.val (.int .i64 n), m))
  | some (.slice _), .dsl _ l => some (.ok (.val (.int .i64 (List.length l)), m))
  | some (.slice _), .vec i => match nth m i with
    | some (.vec _ l _) => some (.ok (.val (.int .i64 (List.length l)), m))
    | _ => some .no
  | some (.slice _), .emp => some (.ok (.val (.int .i64 0), m))
  | _, _ => none
def allSome {α : Type} : List (Option α) → Option (List α)
  | [] => some []
  | none :: _ => none
  | some a :: l => (allSome l).map (a :: ·)

/-- a slice of bytes to a string -/
def byteL : List SV → Option (List Int)
  | [] => some []
  | .val (.int .u8 n) :: l => (byteL l).map (n :: ·)
  | _ => none
def strOf (ns : List Int) : ByteArray := ⟨(ns.map fun n => UInt8.ofNat n.toNat).toArray⟩
def sxConv (P : Program) (src dst : TypeId) (i off n : Nat) (m : List Blk) : R3 (SV × List Blk) :=
  match P.underlying src, P.underlying dst with
  | some (.slice e), some .string => match P.underlying e, nth m i with
    | some (.int .u8), some (.cells l _ _) => match byteL (cut l off n) with
      | some ns => if ns.length = n then .ok (.val (.string (strOf ns)), m) else .no
      | none => .no
    | _, _ => .no
  | _, _ => .no

/-- the elements that are appended -/
def partS (t : Ty) (m : List Blk) : SV → Option (List t.den)
  | .sl i off n _ => match nth m i with
    | some (.cells cs _ _) => match parseN (parseT t m) n (cut cs off (n * t.size)) with
      | some (l, []) => some l
      | _ => none
    | _ => none
  | x => parseS t (parseT t m) m x
/-- the list that is appended to: its elements, and what is left of its number -/
def headS (t : Ty) (m : List Blk) : SV → Option (List t.den × List Blk)
  | .vec i => match nth m i with
    | some (.vec t' l _) => if h : t' = t then some (h ▸ l, m.set i .dead) else none
    | _ => none
  | .val (.slice none n c) => if n = 0 ∧ c = 0 then some ([], m) else none
  | .sl i 0 n c => match nth m i with
    | some (.cells cs _ true) => if n = c ∧ cs.length = n * t.size then match parseN (parseT t m) n cs with
      | some (l, []) => some (l, m.set i .dead)
      | _ => none
      else none
    | _ => none
  | _ => none
def innerS (m : List Blk) : SV → List SV
  | .sl i _ _ _ => match nth m i with
    | some (.cells cs _ _) => cs
    | _ => []
  | _ => []
/-- whether what comes of an append may be written -/
def headW (m : List Blk) : SV → Bool
  | .vec i => match nth m i with
    | some (.vec _ _ b) => b
    | _ => false
  | .sl _ 0 0 _ => true
  | _ => false
def tyBytes (P : Program) (t : TypeId) : Option Nat := (P.info? t).map (·.bytes)
def sxAppend (P : Program) (ts : List TypeId) (x y : SV) (m : List Blk) : R3 (SV × List Blk) :=
  match ts with
  | [t1, t2] => if t1 = t2 then match P.underlying t1 with
    | some (.slice e) => match tyOf P 12 e, tySize P e, tyBytes P e, tyZero P e with
      | some t, some (sz + 1), some by_, some z => if sz + 1 = t.size ∧ by_ ≤ 1048576 ∧ z.cells.size = sz + 1 then
        match x with
        | .emp => match partS t (frz m (reach m 6 (innerS m y))) y with
          | some l' => .need (decide (l'.length ≤ 1048576)) (.br (List.isEmpty l') (.ok (.emp, frz m (reach m 6 (innerS m y)))) (.ok (.vec m.length, frz m (reach m 6 (innerS m y)) ++ [.vec t l' true])))
          | none => .no
        | x => match headS t (frz m (reach m 6 (innerS m x ++ innerS m y))) x with
          | some (l, m') => match partS t m' y with
            | some l' => .need (decide (l.length + l'.length ≤ 1048576)) (.ok (.vec m'.length, m' ++ [.vec t (l ++ l') (headW (frz m (reach m 6 (innerS m x ++ innerS m y))) x)]))
            | none => .no
          | none => .no
        else .no
      | _, _, _, _ => .no
    | _ => .no
    else .no
  | _ => .no

/-- zero values, flat -/
def zeroFlat (P : Program) (e : TypeId) (t : Ty) : Bool :=
  match tyZero P e with
  | some z => match parseT t [] (z.cells.toList.map .val) with
    | some (_, []) => true
    | _ => false
  | none => false
def zeroOfT (P : Program) (e : TypeId) (t : Ty) : t.den :=
  match tyZero P e with
  | some z => match parseT t [] (z.cells.toList.map .val) with
    | some (y, []) => y
    | _ => t.dflt
  | none => t.dflt
def sxMakeSlice (P : Program) (ty : TypeId) (x y : SV) (m : List Blk) : R3 (SV × List Blk) :=
  match P.underlying ty, x, y with
  | some (.slice e), .val (.int _ n), .val (.int _ c) => match tyOf P 12 e, tySize P e, tyBytes P e with
    | some t, some (sz + 1), some by_ => if sz + 1 = t.size ∧ by_ ≤ 1048576 ∧ zeroFlat P e t = true then
      .need (decide (0 ≤ n) && decide (n = c) && decide (n ≤ 1048576)) (.ok (.vec m.length, m ++ [.vec t (List.replicate n.toNat (zeroOfT P e t)) true]))
      else .no
    | _, _, _ => .no
  | _, _, _ => .no
def sxVal (P : Program) (rd : Rd) (o : Oper) (ev : Operand → SV) (m : List Blk) : R3 (SV × List Blk) :=
  match o.op with
  | .move x => .ok (ev x, m)
  | .assign x => .ok (ev x, m)
  | .pick c a b => match ev c with
    | .val (.bool t) => sxPick t (ev a) (ev b) m
    | _ => .no
  | .alloc t => match tyZero P t with
    | some v => .ok (.ptr m.length 0, m ++ [.cells (v.cells.toList.map .val) t true])
    | none => .no
  | .box t x => match (ev x).cells with
    | some l => .ok (.ptr m.length 0, m ++ [.cells l t true])
    | none => .no
  | .load t x => sxLoad P rd t (ev x) m
  | .store t x v => sxStore P t (ev x) (ev v) m
  | .nilCheck x => match ev x with
    | .ptr i off => .ok (.ptr i off, m)
    | .clo (.func f) l k => .ok (.clo (.func f) l k, m)
    | .dpt ty y off => .ok (.dpt ty y off, m)
    | .wpt i sz k off => .ok (.wpt i sz k off, m)
    | _ => sxPure P o ev m
  | .fieldAddr t x f => match ev x with
    | .ptr i off => sxFieldAddr P t i off f m
    | .dpt ty y off => sxFieldAddrD P t ty y off f m
    | .wpt i sz k off => sxFieldAddrW P t i sz k off f m
    | _ => sxPure P o ev m
  | .makeFunc fn first caps =>
    if (first ++ caps).toList.all (fun x => (ev x).plain.isSome) then sxPure P o ev m
    else .ok (.clo fn (first.toList.map ev) (caps.toList.map ev), m)
  | .extract x ix => match ev x with
    | .tup l => match nth l ix with
      | some v => .ok (v, m)
      | none => .no
    | _ => sxPure P o ev m
  | .field t x f => match ev x with
    | .agg l => sxField P t l f m
    | _ => sxPure P o ev m
  | .index t x ix => match P.underlying t, ev x, ev ix with
    | some .string, .val (.string s), .val (.int _ n) => sxStrIndex s n m
    | _, _, _ => sxPure P o ev m
  | .indexAddr t x ix => match ev ix with
    | .val (.int _ n) => sxIndexAddr P t (ev x) n m
    | _ => .no
  | .binOp op t x y _ => match op with
    | .quo => sxDiv false (ev x) (ev y) m
    | .rem => sxDiv true (ev x) (ev y) m
    | .eql => if isStruct P t then sxEq P false t (ev x) (ev y) m else sxPure P o ev m
    | .neq => if isStruct P t then sxEq P true t (ev x) (ev y) m else sxPure P o ev m
    | _ => sxPure P o ev m
  | .slice t x lo hi mx => match P.underlying t, ev x, mx with
    | some .string, .val (.string s), none => sxSlice s (lo.map ev) (hi.map ev) m
    | some (.slice _), y, none => sxCut P t y (lo.map ev) (hi.map ev) m
    | some (.slice _), y, some mx => sxEmp P t y (lo.map ev) (hi.map ev) (ev mx) m
    | _, _, _ => .no
  | .convert src dst x => match ev x with
    | .sl i off n _ => sxConv P src dst i off n m
    | _ => sxPure P o ev m
  | .makeMap t none => .ok (.mp m.length, m ++ [newMap P t])
  | .makeSlice t n c => sxMakeSlice P t (ev n) (ev c) m
  | .insert t mp k v => sxInsert P t (ev mp) (ev k) (ev v) m
  | .mapUpdate t mp k v => sxInsert P t (ev mp) (ev k) (ev v) m
  | .lookup t x ix ok => sxLookup P t (ev x) (ev ix) ok m
  | .buildSlice t n parts => sxBuildSlice P t n (parts.toList.map (·.1)) (allSome (parts.toList.map fun p => (ev p.2).cells)) m
  | .call c => match c.callee, c.args.toList with
    | .builtin .len, [x] => match sxLen P c.argTypes[0]? (ev x) m with
      | some r => r
      | none => sxPure P o ev m
    | .builtin .append, [x, y] => sxAppend P c.argTypes.toList (ev x) (ev y) m
    | .builtin .append, _ => .no
    | .builtin _, _ => sxPure P o ev m
    | _, _ => .no
  | _ => sxPure P o ev m

end Go.SX

/-
  A symbolic executor: one operation is as the model does it.
-/
namespace Go.SX
open Go.RowKit

def Does (E : Env) (ρ : Ctx) (r : Result Next) (v : SV) (m' : List Blk) : Prop :=
  ∃ nx w' ρ' u, r = .ok nx w' ∧ (nx = .value u ∨ nx = .skip ∧ u = undef) ∧ v.R ρ' u ∧ Mem E ρ' m' w' ∧ Le ρ ρ'

section
variable {E : Env} {P : Program} {ρ : Ctx} {m m' : List Blk} {w : World} {a : Act} {o : Oper} {ev : Operand → SV} {v : SV}

/-- an operation that leaves the world az it is -/
def Same (ρ : Ctx) (w : World) (r : Result Next) (v : SV) (m m' : List Blk) : Prop := ∃ u, r = .ok (.value u) w ∧ v.R ρ u ∧ m' = m
theorem Same.mk {r : Result Next} {u : Value} (hr : r = .ok (.value u) w) (hv : v.R ρ u) : Same ρ w r v m m := ⟨u, hr, hv, rfl⟩
theorem Same.does {r : Result Next} (hM : Mem E ρ m w) (h : Same ρ w r v m m') : Does E ρ r v m' := by
  obtain ⟨u, h1, h2, rfl⟩ := h
  exact ⟨_, w, ρ, u, h1, .inl rfl, h2, hM, Le.refl _⟩

theorem pure_sound (he : ∀ x, (ev x).R ρ (a.eval x)) (h : (sxPure P o ev m).res = some (v, m')) : Same ρ w ((execOp a.eval o).run P w) v m m' := by
  unfold sxPure at h
  split at h
  · rename_i hc
    rw [Bool.and_eq_true] at hc
    obtain ⟨hp, hs⟩ := hc
    split at h
    · rename_i u hu
      cases h
      refine Same.mk ?_ rfl
      rw [execOp_congr (ρ := a.eval) (ρ' := fun x => (ev x).plain.getD undef) o ?_ ?_]
      · exact pureV_run _ _ hu w
      · intro cs b hb
        rw [hb] at hs
        exact absurd hs (by simp [isSel])
      · intro x hx
        have h1 := List.all_eq_true.1 hp x (by simpa using hx)
        obtain ⟨v, hv⟩ := Option.isSome_iff_exists.1 h1
        rw [hv]
        exact SV.plain_R _ _ _ hv (he x)
    · cases h
  · cases h

theorem run_type {t : TypeId} {d : TypeDesc} (h : P.underlying t = some d) : (underlying t).run P w = .ok d w := by
  simp [underlying, program, Sem.run, h]
theorem run_agg {t : TypeId} {b : Bool} (h : tyAgg P t = some b) : (isAgg t).run P w = .ok b w := by
  unfold tyAgg at h
  cases hu : P.underlying t with
  | none => rw [hu] at h; cases h
  | some d =>
    rw [hu] at h
    simp only [Option.map_some, Option.some.injEq] at h
    simp only [isAgg, Sem.run_bind, run_type hu, Result.andThen_ok]
    rw [← h]
    cases d <;> rfl
theorem run_size {t : TypeId} {n : Nat} (h : tySize P t = some n) : (sizeOf t).run P w = .ok n w := by
  unfold tySize at h
  simp only [Option.map_eq_some_iff] at h
  obtain ⟨i, h1, h2⟩ := h
  simp [sizeOf, typeInfo, program, Sem.run, h1, h2]
theorem run_zero {t : TypeId} {v : Value} (h : tyZero P t = some v) : (zeroValue t).run P w = .ok v w := by
  unfold tyZero at h
  cases hi : P.info? t with
  | none => rw [hi] at h; cases h
  | some i =>
    rw [hi] at h
    simp only [Option.bind_some] at h
    simp [zeroValue, typeInfo, program, Sem.run, hi, h]

theorem addr_add (r off i : Nat) : Addr.add ⟨r, off, none⟩ i = ⟨r, off + i, none⟩ := by
  unfold Addr.add
  split
  · rename_i h; rw [h, Nat.add_zero]
  · rfl
theorem run_load_at {r off : Nat} {us : List Value} {t : TypeId} {z : Nat × Nat} {u : Value} (hb : w.heap[r]? = some (.cells us.toArray t z)) (hu : us[off]? = some u) :
    (load ⟨r, off, none⟩).run P w = .ok u w := by
  simp [load, Sem.run, World.cell?, hb, hu]
theorem run_loadFrom {r off : Nat} {us : List Value} {t : TypeId} {z : Nat × Nat} (hb : w.heap[r]? = some (.cells us.toArray t z)) :
    ∀ (n i : Nat) (acc : List Value), (cut us (off + i) n).length = n → (loadCellsFrom ⟨r, off, none⟩ i n acc.toArray).run P w = .ok (acc ++ cut us (off + i) n).toArray w
  | 0, i, acc, _ => by simp [loadCellsFrom, cut]
  | n + 1, i, acc, hl => by
    have hlt : off + i < us.length := by
      unfold cut at hl
      simp at hl
      omega
    have hcut : cut us (off + i) (n + 1) = us[off + i] :: cut us (off + (i + 1)) n := by
      unfold cut
      rw [List.drop_eq_getElem_cons hlt, List.take_succ_cons, Nat.add_assoc]
    rw [hcut, List.length_cons] at hl
    have h1 : (load (Addr.add ⟨r, off, none⟩ i)).run P w = .ok us[off + i] w := by
      rw [addr_add]
      exact run_load_at hb (List.getElem?_eq_getElem hlt)
    have h2 := run_loadFrom (off := off) hb n (i + 1) (acc ++ [us[off + i]]) (by omega)
    simp only [loadCellsFrom, Sem.run_bind, h1, Result.andThen_ok]
    rw [hcut]
    simpa using h2

theorem flatT_R : ∀ (t : Ty) (x : t.den) (ds : List Value), HC ρ.z t x ds → SV.RL ρ (flatT t x) ds
  | .int k, x, ds, h => by rw [HC] at h; subst h; exact ⟨_, _, rfl, rfl, rfl⟩
  | .str, x, ds, h => by rw [HC] at h; subst h; exact ⟨_, _, rfl, rfl, rfl⟩
  | .bool, x, ds, h => by rw [HC] at h; subst h; exact ⟨_, _, rfl, rfl, rfl⟩
  | .unit, x, ds, h => by rw [HC] at h; subst h; rfl
  | .pair a b, x, ds, ⟨c1, c2, h1, h2, h3⟩ => by subst h1; exact (flatT_R a x.1 c1 h2).append (flatT_R b x.2 c2 h3)
  | .sl t, l, ds, h => by
    have h0 := h
    obtain ⟨base, c, rfl, h2⟩ := h
    exact ⟨_, _, rfl, h0, rfl⟩
theorem run_loadZ {z : Nat → Nat → Option Value} (hz : ∀ (r o : Nat) (x : Value), z r o = some x → w.cell? ⟨r, o, none⟩ = some x) {r o : Nat} {ds : List Value} (hd : ZC z r o ds) (off : Nat) :
    ∀ (n i : Nat) (acc : List Value), (cut ds (off + i) n).length = n → (loadCellsFrom ⟨r, o + off, none⟩ i n acc.toArray).run P w = .ok (acc ++ cut ds (off + i) n).toArray w
  | 0, i, acc, _ => by simp [loadCellsFrom, cut]
  | n + 1, i, acc, hl => by
    have hlt : off + i < ds.length := by
      unfold cut at hl
      simp at hl
      omega
    have hcut : cut ds (off + i) (n + 1) = ds[off + i] :: cut ds (off + (i + 1)) n := by
      unfold cut
      rw [List.drop_eq_getElem_cons hlt, List.take_succ_cons, Nat.add_assoc]
    rw [hcut, List.length_cons] at hl
    have h1 : (load (Addr.add ⟨r, o + off, none⟩ i)).run P w = .ok ds[off + i] w := by
      rw [addr_add]
      have h9 := hz _ _ _ (hd (off + i) _ (List.getElem?_eq_getElem hlt))
      rw [← Nat.add_assoc] at h9
      simp [load, Sem.run, h9]
    have h2 := run_loadZ hz hd off n (i + 1) (acc ++ [ds[off + i]]) (by omega)
    simp only [loadCellsFrom, Sem.run_bind, h1, Result.andThen_ok]
    rw [hcut]
    simpa using h2
theorem run_readCells {rd : Rd} (hrd : rd.Ok w fun _ => False) (a : Addr) : ∀ (ds : List TypeDesc) (j : Nat) (l : List SV) (acc : List Value), (readCells rd a j ds).res = some l →
    ∃ us, (loadCellsFrom a j ds.length acc.toArray).run P w = .ok (acc ++ us).toArray w ∧ SV.RL ρ l us
  | [], j, l, acc, h => by
    cases h
    exact ⟨[], by simp [loadCellsFrom], rfl⟩
  | d :: ds, j, l, acc, h => by
    have step : ∀ (v : Value), w.cell? (a.add j) = some v → ((readCells rd a (j + 1) ds).bind fun l => .ok (.val v :: l)).res = some l → ∃ us, (loadCellsFrom a j (ds.length + 1) acc.toArray).run P w = .ok (acc ++ us).toArray w ∧ SV.RL ρ l us := fun v hv h => by
      obtain ⟨l', h1, h2⟩ := R3.bind_some _ _ _ h
      cases h2
      obtain ⟨us, h3, h4⟩ := run_readCells hrd a ds (j + 1) l' (acc ++ [v]) h1
      refine ⟨v :: us, ?_, ⟨v, us, rfl, rfl, h4⟩⟩
      have h5 : (load (a.add j)).run P w = .ok v w := by simp [load, Sem.run, hv]
      simp only [loadCellsFrom, Sem.run_bind, h5, Result.andThen_ok]
      simpa using h3
    unfold readCells at h
    simp only at h
    split at h
    · obtain ⟨h1, h⟩ := R3.need_some h
      exact step _ (hrd.s _ h1).1 h
    · obtain ⟨h1, h⟩ := R3.need_some h
      exact step _ (hrd.i _ _ h1).1 h
    · obtain ⟨h1, h⟩ := R3.need_some h
      exact step _ (hrd.b _ h1).1 h
    · obtain ⟨h1, h⟩ := R3.need_some h
      exact step _ (hrd.l _ h1).1 h
    · cases h
theorem load_sound {t : TypeId} {x : SV} {u : Value} (hM : View E ρ m w) (hx : x.R ρ u) (h : (sxLoad P E.rd t x m).res = some (v, m')) :
    ∃ u', (Instr.loadAt t u).run P w = .ok u' w ∧ v.R ρ u' ∧ m' = m := by
  unfold sxLoad at h
  split at h
  · rename_i i off
    obtain ⟨r, hr, rfl⟩ := hx
    cases hm : nth m i with
    | none => rw [hm] at h; cases h
    | some b =>
      rw [hm] at h
      rw [nth_eq] at hm
      cases b with
      | dead => cases h
      | mp l => cases h
      | pm kt vt l => cases h
      | vec t' l => cases h
      | cells l ty wr =>
        obtain ⟨_, hb, us, rfl, hl⟩ := hM.get hm hr
        cases hg : tyAgg P t with
        | none => rw [hg] at h; cases h
        | some g =>
          rw [hg] at h
          cases g with
          | true =>
            cases hs : tySize P t with
            | none => rw [hs] at h; cases h
            | some n =>
              rw [hs] at h
              simp only at h
              split at h
              · rename_i hlen
                cases h
                have hc : SV.RL ρ (cut l off n) (cut us off n) := (hl.drop off).take n
                refine ⟨_, ?_, ⟨_, rfl, hc⟩, rfl⟩
                have h1 := run_loadFrom (P := P) (off := off) hb n 0 [] (by rw [Nat.add_zero, hc.length, hlen])
                simp only [Instr.loadAt, Instr.sureAddr, loadVar, Sem.run_bind, run_agg hg, Result.andThen_ok, if_true, run_size hs, loadCells, Sem.run_pure] at h1 ⊢
                rw [h1]
                simp
              · cases h
          | false =>
            simp only at h
            rw [nth_eq] at h
            cases hv : l[off]? with
            | none => rw [hv] at h; cases h
            | some v' =>
              rw [hv] at h
              cases h
              obtain ⟨u', h1, h2⟩ := hl.get hv
              refine ⟨u', ?_, h2, rfl⟩
              simp only [Instr.loadAt, Instr.sureAddr, loadVar, Sem.run_bind, run_agg hg, Result.andThen_ok, Sem.run_pure, Bool.false_eq_true, if_false]
              exact run_load_at hb h1
  · rename_i ad
    obtain rfl : u = .pointer (some ad) := hx
    split at h
    · rename_i hg
      have key : ∀ c, w.cell? ad = some c → (Instr.loadAt t (.pointer (some ad))).run P w = .ok c w := fun c h1 => by
        simp [Instr.loadAt, Instr.sureAddr, loadVar, Sem.run_bind, run_agg hg, load, Sem.run, h1]
      have hrd := hM.kept.read
      unfold readExt at h
      split at h
      · obtain ⟨h1, h⟩ := R3.need_some h
        cases h
        exact ⟨_, key _ (hrd.s _ h1).1, rfl, rfl⟩
      · obtain ⟨h1, h⟩ := R3.need_some h
        cases h
        exact ⟨_, key _ (hrd.i _ _ h1).1, rfl, rfl⟩
      · obtain ⟨h1, h⟩ := R3.need_some h
        cases h
        exact ⟨_, key _ (hrd.b _ h1).1, rfl, rfl⟩
      · obtain ⟨h1, h⟩ := R3.need_some h
        cases h
        exact ⟨_, key _ (hrd.l _ h1).1, rfl, rfl⟩
      · cases h
    · rename_i hg
      have hrd := hM.kept.read
      unfold readAgg at h
      split at h
      · rename_i ds n _ hs
        split at h
        · rename_i hlen
          obtain ⟨l, h1, h2⟩ := R3.bind_some _ _ _ h
          cases h2
          have h3 := run_readCells (P := P) (ρ := ρ) hrd ad ds 0 l [] h1
          obtain ⟨us, h4, h5⟩ := h3
          refine ⟨.agg us.toArray, ?_, ⟨us, rfl, h5⟩, rfl⟩
          rw [hlen] at h4
          simp only [Instr.loadAt, Instr.sureAddr, loadVar, Sem.run_bind, run_agg hg, Result.andThen_ok, if_true, run_size hs, loadCells, Sem.run_pure]
          rw [h4]
          simp
        · cases h
      · cases h
    · cases h
  · rename_i ty y off
    obtain ⟨r, o, ds, rfl, h1, h2⟩ := hx
    have h3 := flatT_R ty y ds h2
    split at h
    · rename_i n hg hs
      split at h
      · rename_i hlen
        cases h
        have hc : SV.RL ρ (cut (flatT ty y) off n) (cut ds off n) := (h3.drop off).take n
        refine ⟨_, ?_, ⟨_, rfl, hc⟩, rfl⟩
        have h4 := run_loadZ (P := P) hM.zok h1 off n 0 [] (by rw [Nat.add_zero, hc.length, hlen])
        simp only [Instr.loadAt, Instr.sureAddr, loadVar, Sem.run_bind, run_agg hg, Result.andThen_ok, if_true, run_size hs, loadCells, Sem.run_pure] at h4 ⊢
        rw [h4]
        simp
      · cases h
    · rename_i n hg
      rw [nth_eq] at h
      split at h
      · rename_i v' hv
        cases h
        obtain ⟨u', h4, h5⟩ := h3.get hv
        refine ⟨u', ?_, h5, rfl⟩
        have h6 := hM.zok _ _ _ (h1 off u' h4)
        simp [Instr.loadAt, Instr.sureAddr, loadVar, Sem.run_bind, run_agg hg, load, Sem.run, h6]
      · cases h
    · cases h
  · rename_i i sz k off
    obtain ⟨r, n0, c0, hv, rfl⟩ := hx
    split at h
    · rename_i ty l b hm
      rw [nth_eq] at hm
      split at h
      · rename_i hsz
        subst hsz
        have key : ∀ (hk : k < l.length), ∃ ds, SV.RL ρ (flatT ty (List.getD l k ty.dflt)) ds ∧ ZC (fun r o => w.cell? ⟨r, o, none⟩) r (k * ty.size) ds := fun hk => by
          obtain ⟨ds, h1, h2⟩ := hM.elem i ty l b r n0 c0 hm hv k l[k] (List.getElem?_eq_getElem hk)
          refine ⟨ds, ?_, fun j y hy => h2 j y hy⟩
          rw [List.getD_eq_getElem?_getD, List.getElem?_eq_getElem hk]
          exact flatT_R ty l[k] ds h1
        split at h
        · rename_i n hg hs
          split at h
          · rename_i hlen
            obtain ⟨hk, h⟩ := R3.need_some h
            cases h
            obtain ⟨ds, h3, hz⟩ := key (of_decide_eq_true hk)
            have hc : SV.RL ρ (cut (flatT ty (List.getD l k ty.dflt)) off n) (cut ds off n) := (h3.drop off).take n
            refine ⟨_, ?_, ⟨_, rfl, hc⟩, rfl⟩
            have h4 := run_loadZ (P := P) (fun _ _ _ h => h) hz off n 0 [] (by rw [Nat.add_zero, hc.length, hlen])
            simp only [Instr.loadAt, Instr.sureAddr, loadVar, Sem.run_bind, run_agg hg, Result.andThen_ok, if_true, run_size hs, loadCells, Sem.run_pure] at h4 ⊢
            rw [h4]
            simp
          · cases h
        · rename_i n hg
          rw [nth_eq] at h
          split at h
          · rename_i v' hv'
            obtain ⟨hk, h⟩ := R3.need_some h
            cases h
            obtain ⟨ds, h3, hz⟩ := key (of_decide_eq_true hk)
            obtain ⟨u', h4, h5⟩ := h3.get hv'
            refine ⟨u', ?_, h5, rfl⟩
            have h6 : w.cell? ⟨r, k * ty.size + off, none⟩ = some u' := hz off u' h4
            simp [Instr.loadAt, Instr.sureAddr, loadVar, Sem.run_bind, run_agg hg, load, Sem.run, h6]
          · cases h
        · cases h
      · cases h
    · cases h
  · cases h

theorem RL.lay {ρ : Ctx} {l cs : List SV} {us vs : List Value} (h : SV.RL ρ l us) (hc : SV.RL ρ cs vs) (off : Nat) : SV.RL ρ (lay l off cs) (lay us off vs) := by
  unfold SX.lay
  rw [hc.length]
  exact ((h.take off).append hc).append (h.drop _)
theorem atom_R {x : SV} {u : Value} (hx : x.R ρ u) {cs : List SV} (h : x.cells = some cs) : SV.RL ρ cs u.cells.toList := by
  cases x with
  | agg l =>
    obtain ⟨us, rfl, h2⟩ := hx
    simp only [SV.cells, Option.some.injEq] at h
    subst h
    simpa [Value.cells] using h2
  | any => cases h
  | val v =>
    obtain rfl : u = v := hx
    cases u with
    | agg cs' =>
      simp only [SV.cells, Option.some.injEq] at h
      subst h
      simpa [Value.cells] using SV.RL.vals cs'.toList
    | _ =>
      simp only [SV.cells, Option.some.injEq] at h
      subst h
      exact ⟨_, _, rfl, rfl, rfl⟩
  | ptr i off =>
    simp only [SV.cells, Option.some.injEq] at h
    subst h
    obtain ⟨b, h1, rfl⟩ := hx
    exact ⟨_, _, rfl, ⟨b, h1, rfl⟩, rfl⟩
  | sl i off n c =>
    simp only [SV.cells, Option.some.injEq] at h
    subst h
    obtain ⟨b, h1, rfl⟩ := hx
    exact ⟨_, _, rfl, ⟨b, h1, rfl⟩, rfl⟩
  | mp i =>
    simp only [SV.cells, Option.some.injEq] at h
    subst h
    obtain ⟨b, h1, rfl⟩ := hx
    exact ⟨_, _, rfl, ⟨b, h1, rfl⟩, rfl⟩
  | tup l =>
    simp only [SV.cells, Option.some.injEq] at h
    subst h
    obtain ⟨us, rfl, h2⟩ := hx
    exact ⟨_, _, rfl, ⟨us, rfl, h2⟩, rfl⟩
  | clo fn l k =>
    simp only [SV.cells, Option.some.injEq] at h
    subst h
    obtain ⟨us, vs, rfl, h2, h3⟩ := hx
    exact ⟨_, _, rfl, ⟨us, vs, rfl, h2, h3⟩, rfl⟩
  | dsl t l =>
    simp only [SV.cells, Option.some.injEq] at h
    subst h
    have h0 := hx
    obtain ⟨base, c, h1, h2⟩ := hx
    cases h1
    exact ⟨_, _, rfl, h0, rfl⟩
  | dpt t y off =>
    simp only [SV.cells, Option.some.injEq] at h
    subst h
    have h0 := hx
    obtain ⟨r, o, ds, rfl, h2⟩ := hx
    exact ⟨_, _, rfl, h0, rfl⟩
  | vec i =>
    simp only [SV.cells, Option.some.injEq] at h
    subst h
    have h0 := hx
    obtain ⟨_, base, n, c, rfl⟩ := hx
    exact ⟨_, _, rfl, h0, rfl⟩
  | wpt i sz k off =>
    simp only [SV.cells, Option.some.injEq] at h
    subst h
    have h0 := hx
    obtain ⟨r, n, c, h1, rfl⟩ := hx
    exact ⟨_, _, rfl, h0, rfl⟩
  | emp =>
    simp only [SV.cells, Option.some.injEq] at h
    subst h
    have h0 := hx
    obtain ⟨a, rfl⟩ := hx
    exact ⟨_, _, rfl, h0, rfl⟩

theorem atoms_R {ρ : Ctx} : ∀ {cs : List SV} {us : List Value}, cs.all SV.atom = true → SV.RL ρ cs us → us.all atomic = true
  | [], _, _, h => by rw [SV.RL] at h; subst h; rfl
  | x :: cs, _, ha, ⟨u, us', h1, h2, h3⟩ => by
    rw [List.all_cons, Bool.and_eq_true] at ha
    subst h1
    rw [List.all_cons, Bool.and_eq_true]
    refine ⟨?_, atoms_R ha.2 h3⟩
    have hx := ha.1
    cases x with
    | val v => obtain rfl : u = v := h2; exact hx
    | any => cases hx
    | ptr i off => obtain ⟨_, _, rfl⟩ := h2; rfl
    | sl i off n c => obtain ⟨_, _, rfl⟩ := h2; rfl
    | mp i => obtain ⟨_, _, rfl⟩ := h2; rfl
    | agg l => cases hx
    | tup l => cases hx
    | clo fn l k => obtain ⟨_, _, rfl, _, _⟩ := h2; rfl
    | dsl t l => obtain ⟨_, _, h3, _⟩ := h2; cases h3; rfl
    | dpt t y off => obtain ⟨_, _, _, rfl, _⟩ := h2; rfl
    | vec i => obtain ⟨_, _, _, _, rfl⟩ := h2; rfl
    | wpt i sz k off => obtain ⟨_, _, _, _, rfl⟩ := h2; rfl
    | emp => obtain ⟨_, rfl⟩ := h2; rfl
theorem lay_set (us : List Value) (k : Nat) (v : Value) (vs : List Value) (hk : k < us.length) : lay us k (v :: vs) = lay (us.set k v) (k + 1) vs := by
  unfold lay
  apply List.ext_getElem?
  intro j
  simp only [List.getElem?_append, List.length_append, List.length_take, List.length_set, List.length_cons, List.getElem?_take, List.getElem?_set, List.getElem?_drop]
  rcases Nat.lt_trichotomy j k with h | h | h
  · simp [h, Nat.min_eq_left (Nat.le_of_lt hk), Nat.ne_of_gt h, show j < k + 1 by omega, show j < min (k + 1) us.length by omega, show j < min (k + 1) us.length + vs.length by omega]
    omega
  · subst h
    simp [hk, Nat.min_eq_left (Nat.le_of_lt hk), Nat.min_eq_left (Nat.succ_le_of_lt hk)]
    omega
  · have e1 : min k us.length = k := by omega
    have e2 : min (k + 1) us.length = k + 1 := by omega
    rw [e1, e2]
    by_cases h2 : j < k + (vs.length + 1)
    · obtain ⟨d, rfl⟩ : ∃ d, j = k + 1 + d := ⟨j - k - 1, by omega⟩
      simp [show k + 1 + d < k + (vs.length + 1) by omega, show ¬ k + 1 + d < k by omega, show k + 1 + d < k + 1 + vs.length by omega, show k + 1 + d - k = d + 1 by omega, show ¬ (k + 1 + d < k + 1) by omega]
    · simp [h2, show ¬ j < k + 1 + vs.length by omega]
      rw [if_neg (by omega)]
      congr 1
      omega

theorem run_storeFrom {r off : Nat} {t : TypeId} : ∀ (vs : List Value) (i : Nat) (w : World) (us : List Value), w.heap[r]? = some (.cells us.toArray t (0, 0)) → off + i + vs.length ≤ us.length → vs.all atomic = true →
    (storeCells ⟨r, off, none⟩ vs i).run P w = .ok () { w with heap := w.heap.setIfInBounds r (.cells (lay us (off + i) vs).toArray t (0, 0)) }
  | [], i, w, us, hb, _, _ => by
    have : w.heap.setIfInBounds r (.cells (lay us (off + i) []).toArray t (0, 0)) = w.heap := by
      apply Array.ext_getElem?
      intro j
      rw [Array.getElem?_setIfInBounds]
      split
      · rename_i hj
        subst hj
        split
        · rw [hb]; simp [lay]
        · rename_i h; rw [Array.getElem?_eq_none (by omega)] at hb; cases hb
      · rfl
    rw [this]
    rfl
  | v :: vs, i, w, us, hb, hl, ha => by
    rw [List.all_cons, Bool.and_eq_true] at ha
    simp only [List.length_cons] at hl
    have hlt : off + i < us.length := by omega
    have hr : r < w.heap.size := by
      rcases Nat.lt_or_ge r w.heap.size with h | h
      · exact h
      · rw [Array.getElem?_eq_none h] at hb; cases hb
    have h1 : (store (Addr.add ⟨r, off, none⟩ i) v).run P w = .ok () { w with heap := w.heap.setIfInBounds r (.cells (us.set (off + i) v).toArray t (0, 0)) } := by
      rw [addr_add]
      have hset : w.setCell ⟨r, off + i, none⟩ v = { w with heap := w.heap.setIfInBounds r (.cells (us.set (off + i) v).toArray t (0, 0)) } := by
        unfold World.setCell
        congr 1
        apply Array.ext_getElem?
        intro j
        rw [Array.getElem?_modify, Array.getElem?_setIfInBounds]
        split
        · rename_i hj
          subst hj
          rw [hb]
          simp
        · rfl
      have hcell : w.cell? ⟨r, off + i, none⟩ = some us[off + i] := by simp [World.cell?, hb, hlt]
      have hfz : w.frozen? ⟨r, off + i, none⟩ = false := by simp [World.frozen?, hb]
      obtain ⟨ha1, _⟩ := ha
      cases v with
      | agg c => cases ha1
      | tuple c => cases ha1
      | _ => simp only [store, Sem.run, hcell, hfz, Bool.false_eq_true, if_false, hset]
    have h2 := run_storeFrom (r := r) (off := off) (t := t) vs (i + 1) { w with heap := w.heap.setIfInBounds r (.cells (us.set (off + i) v).toArray t (0, 0)) } (us.set (off + i) v) (by simp [hr]) (by simp; omega) ha.2
    simp only [storeCells, Sem.run_bind, h1, Result.andThen_ok, h2, Array.setIfInBounds_setIfInBounds]
    rw [lay_set us (off + i) v vs hlt, show off + (i + 1) = off + i + 1 by omega]


theorem stBlk_sound {t : TypeId} {i r off : Nat} {y : SV} {u2 : Value} {b b' : Blk} (hM : Mem E ρ m w) (hr : ρ.b i = some r) (hm : m[i]? = some b) (hy : y.R ρ u2) (h : stBlk P t off y b = some b') :
    ∃ w', (Instr.storeAt t (.pointer (some ⟨r, off, none⟩)) u2).run P w = .ok () w' ∧ Mem E ρ (m.set i b') w' := by
  unfold stBlk at h
  cases b with
  | dead => cases h
  | mp l => cases h
  | pm kt vt l => cases h
  | vec t' l => cases h
  | cells l ty wr =>
    obtain ⟨_, hb, us, rfl, hl⟩ := hM.get hm hr
    cases wr with
    | false => cases h
    | true =>
      cases hcs : y.cells with
      | none => rw [hcs] at h; cases h
      | some cs =>
        cases hs : tySize P t with
        | none => rw [hcs, hs] at h; cases h
        | some n =>
          rw [hcs, hs] at h
          simp only at h
          split at h
          · rename_i hc
            simp only [Bool.and_eq_true, decide_eq_true_eq] at hc
            obtain ⟨⟨hlen, hoff⟩, hat⟩ := hc
            cases h
            have hcr := atom_R hy hcs
            have hval : u2.cells.toList.all atomic = true := atoms_R hat hcr
            have h1 := run_storeFrom (P := P) (r := r) (off := off) u2.cells.toList 0 w us hb (by rw [hcr.length, hl.length]; simpa using hoff) hval
            have hsz : u2.cells.size = n := by
              have := hcr.length
              simp at this
              omega
            refine ⟨_, ?_, hM.write (b1 := .cells (lay l off cs) ty true) hm rfl hr ⟨_, rfl, RL.lay hl hcr off⟩ rfl⟩
            simp only [Instr.storeAt, Instr.sureAddr, storeVar, Sem.run_bind, Sem.run_pure, Result.andThen_ok, run_size hs, hsz, ne_eq, not_true_eq_false, if_false]
            exact h1
          · cases h

end
end Go.SX

/-
  A symbolic executor: lists of ours that grow, and memory that stands still from now on.
-/
namespace Go.SX
set_option linter.unusedSimpArgs false
set_option linter.unusedVariables false
open Go.RowKit

section
variable {E : Env} {P : Program} {ρ : Ctx} {m m' : List Blk} {w : World}

/-- less is known of the blocks -/
theorem Mem.weaken (h : Mem E ρ m w) (hl : m.length ≤ m'.length) (hm : ∀ x : Nat, m'[x]? = m[x]? ∨ m'[x]? = some .dead) : Mem E ρ m' w := by
  have key : ∀ (i : Nat) (b : Blk), i < m.length → m'[i]? = some b → m[i]? = some b ∨ b = .dead := fun i b hi hb => by
    rcases hm i with h3 | h3
    · rw [h3] at hb; exact .inl hb
    · rw [h3] at hb; cases hb; exact .inr rfl
  have kv : ∀ (i : Nat) (t : Ty) (l : List t.den) (b : Bool) (u : Value), m'[i]? = some (.vec t l b) → ρ.v i = some u → m[i]? = some (.vec t l b) := fun i t l b u h1 h2 => by
    rcases key i _ (h.vdom i u h2) h1 with h3 | h3
    · exact h3
    · cases h3
  refine ⟨fun i r hi => Nat.lt_of_lt_of_le (h.dom i r hi) hl, fun i b r h3 h4 o ho => ?_, h.lt, h.inj, fun i b r h3 h4 h5 => ?_, h.kept, h.pre, h.new, fun i u hi => Nat.lt_of_lt_of_le (h.vdom i u hi) hl, fun i t l b u h1 h2 => ?_,
    fun i j t l b t' l' b' u u' r h1 h2 h3 h4 => h.vinj i j t l b t' l' b' u u' r (kv i t l b u h1 h3) (kv j t' l' b' u' h2 h4) h3 h4, h.zok, fun i b r o h3 h4 h5 => ?_, fun i l t r o x h3 h4 h5 => ?_, h.znew⟩
  · rcases key i b (h.dom i r h4) h3 with h6 | rfl
    · exact h.ok i b r h6 h4 o ho
    · trivial
  · rcases key i b (h.dom i r h4) h3 with h6 | rfl
    · exact h.own i b r h6 h4 h5
    · cases h5
  · obtain ⟨g1, g2⟩ := h.vok i t l b u (kv i t l b u h1 h2) h2
    refine ⟨g1, g2.imp id fun ⟨r, c, us, ty, k1, k2, k3, k4, k5, k6⟩ => ⟨r, c, us, ty, k1, k2, k3, k4, fun q b h3 h4 => ?_, k6⟩⟩
    rcases key q b (h.dom q r h4) h3 with h6 | rfl
    · exact k5 q b h6 h4
    · rfl
  · rcases key i b (h.dom i r h4) h3 with h6 | rfl
    · exact h.zown i b r o h6 h4 h5
    · cases h5
  · rcases key i _ (h.dom i r h4) h3 with h6 | h6
    · exact h.zfro i l t r o x h6 h4 h5
    · cases h6
theorem kill_weak (m : List Blk) (i : Nat) : m.length ≤ (m.set i .dead).length ∧ ∀ x : Nat, (m.set i .dead)[x]? = m[x]? ∨ (m.set i .dead)[x]? = some .dead := by
  refine ⟨by simp, fun x => ?_⟩
  rw [List.getElem?_set]
  split
  · rename_i hx
    subst hx
    split
    · exact .inr rfl
    · rename_i hlt
      exact .inl (List.getElem?_eq_none (by omega)).symm
  · exact .inl rfl
theorem Mem.kill (h : Mem E ρ m w) (i : Nat) : Mem E ρ (m.set i .dead) w := h.weaken (kill_weak m i).1 (kill_weak m i).2

/-- a block stands still from now on -/
theorem Mem.frz1 (h : Mem E ρ m w) (i : Nat) : ∃ ρ', Le ρ ρ' ∧ ρ'.b = ρ.b ∧ Mem E ρ' (frz1 m i) w := by
  unfold SX.frz1
  split
  · rename_i cs t hm
    rw [nth_eq] at hm
    have hi : i < m.length := (List.getElem?_eq_some_iff.1 hm).1
    have get : ∀ (j : Nat) (b : Blk), (m.set i (.cells cs t false))[j]? = some b → (j ≠ i ∧ m[j]? = some b) ∨ (j = i ∧ b = .cells cs t false) := fun j b hj => by
      rw [List.getElem?_set] at hj
      split at hj
      · rename_i e
        subst e
        first
        | (rw [if_pos hi] at hj; cases hj; exact .inr ⟨rfl, rfl⟩)
        | (cases hj; exact .inr ⟨rfl, rfl⟩)
      · rename_i e
        exact .inl ⟨fun e2 => e e2.symm, hj⟩
    have kv : ∀ (j : Nat) (t' : Ty) (l : List t'.den) (b : Bool), (m.set i (.cells cs t false))[j]? = some (.vec t' l b) → m[j]? = some (.vec t' l b) := fun j t' l b hj => by
      rcases get j _ hj with ⟨_, h2⟩ | ⟨_, h2⟩
      · exact h2
      · cases h2
    let R : Nat → Prop := fun r => ρ.b i = some r
    let z' : Nat → Nat → Option Value := fun r o => if ρ.b i = some r then w.cell? ⟨r, o, none⟩ else ρ.z r o
    have zle : ∀ r o x, ρ.z r o = some x → z' r o = some x := fun r o x hx => by
      show (if ρ.b i = some r then w.cell? ⟨r, o, none⟩ else ρ.z r o) = some x
      split
      · exact h.zok r o x hx
      · exact hx
    have le : Le ρ ⟨ρ.b, ρ.v, z'⟩ := ⟨fun _ _ h => h, fun _ _ h => h, zle⟩
    refine ⟨_, le, rfl, fun j r hj => by simpa using h.dom j r hj, fun j b r h1 h2 o ho => ?_, h.lt, h.inj, fun j b r h1 h2 h3 => ?_, h.kept, h.pre.trans le, h.new, fun j u hj => by simpa using h.vdom j u hj, fun j t' l b0 u h1 h2 => ?_,
      fun j k t1 l1 b1 t2 l2 b2 u u' r h1 h2 h3 h4 => h.vinj j k t1 l1 b1 t2 l2 b2 u u' r (kv j t1 l1 b1 h1) (kv k t2 l2 b2 h2) h3 h4, fun r o x hx => ?_, fun j b r o h1 h2 h3 => ?_, fun j l t' r o x h1 h2 h3 => ?_, fun r o x hx hr => ?_⟩
    · rcases get j b h1 with ⟨_, h3⟩ | ⟨rfl, rfl⟩
      · exact (h.ok j b r h3 h2 o ho).mono le
      · exact (h.ok j (.cells cs t true) r hm h2 o ho).mono le
    · rcases get j b h1 with ⟨_, h4⟩ | ⟨rfl, rfl⟩
      · exact h.own j b r h4 h2 h3
      · cases h3
    · obtain ⟨g1, g2⟩ := h.vok j t' l b0 u (kv j t' l b0 h1) h2
      refine ⟨fun hb => HC.mono zle _ _ _ (g1 hb), g2.imp id fun ⟨r, c, us, ty, k1, k2, k3, k4, k5, k6⟩ => ⟨r, c, us, ty, k1, k2, k3, k4, fun q b h3 h4 => ?_, k6.mono zle fun o x hx => ?_⟩⟩
      · rcases get q b h3 with ⟨_, h5⟩ | ⟨rfl, rfl⟩
        · exact k5 q b h5 h4
        · have := k5 q _ hm h4; cases this
      · have hx' : (if ρ.b i = some r then w.cell? ⟨r, o, none⟩ else ρ.z r o) = some x := hx
        split at hx'
        · rename_i hb
          have := k5 i _ hm hb; cases this
        · exact hx'
    · have hx' : (if ρ.b i = some r then w.cell? ⟨r, o, none⟩ else ρ.z r o) = some x := hx
      split at hx'
      · exact hx'
      · exact h.zok r o x hx'
    · rcases get j b h1 with ⟨hne, h4⟩ | ⟨rfl, rfl⟩
      · show (if ρ.b i = some r then w.cell? ⟨r, o, none⟩ else ρ.z r o) = none
        rw [if_neg (fun hb => hne (h.inj j i r h2 hb))]
        exact h.zown j b r o h4 h2 h3
      · cases h3
    · show (if ρ.b i = some r then w.cell? ⟨r, o, none⟩ else ρ.z r o) = some x
      rcases get j _ h1 with ⟨hne, h4⟩ | ⟨rfl, _⟩
      · rw [if_neg (fun hb => hne (h.inj j i r h2 hb))]
        exact h.zfro j l t' r o x h4 h2 h3
      · rw [if_pos h2]
        exact h3
    · have hx' : (if ρ.b i = some r then w.cell? ⟨r, o, none⟩ else ρ.z r o) = some x := hx
      split at hx'
      · rename_i hb
        have := h.own i _ r hm hb rfl
        omega
      · exact h.znew r o x hx' hr
  · rename_i t l hm
    rw [nth_eq] at hm
    have hi : i < m.length := (List.getElem?_eq_some_iff.1 hm).1
    have get : ∀ (j : Nat) (b : Blk), (m.set i (.vec t l))[j]? = some b → (j ≠ i ∧ m[j]? = some b) ∨ (j = i ∧ b = .vec t l) := fun j b hj => by
      rw [List.getElem?_set] at hj
      split at hj
      · rename_i e
        subst e
        first
        | (rw [if_pos hi] at hj; cases hj; exact .inr ⟨rfl, rfl⟩)
        | (cases hj; exact .inr ⟨rfl, rfl⟩)
      · rename_i e
        exact .inl ⟨fun e2 => e e2.symm, hj⟩
    have kv : ∀ (j : Nat) (t' : Ty) (l' : List t'.den) (b : Bool), (m.set i (.vec t l))[j]? = some (.vec t' l' b) → ∃ (t0 : Ty) (l0 : List t0.den) (b0 : Bool), m[j]? = some (.vec t0 l0 b0) := fun j t' l' b hj => by
      rcases get j _ hj with ⟨_, h2⟩ | ⟨rfl, _⟩
      · exact ⟨_, _, _, h2⟩
      · exact ⟨_, _, _, hm⟩
    let z' : Nat → Nat → Option Value := fun r o => if (ρ.v i).bind vblk = some r ∧ o < l.length * t.size then w.cell? ⟨r, o, none⟩ else ρ.z r o
    have zle : ∀ r o x, ρ.z r o = some x → z' r o = some x := fun r o x hx => by
      show (if (ρ.v i).bind vblk = some r ∧ o < l.length * t.size then w.cell? ⟨r, o, none⟩ else ρ.z r o) = some x
      split
      · exact h.zok r o x hx
      · exact hx
    have zinv : ∀ r o x, z' r o = some x → ((ρ.v i).bind vblk = some r ∧ o < l.length * t.size ∧ w.cell? ⟨r, o, none⟩ = some x) ∨ ρ.z r o = some x := fun r o x hx => by
      have hx' : (if (ρ.v i).bind vblk = some r ∧ o < l.length * t.size then w.cell? ⟨r, o, none⟩ else ρ.z r o) = some x := hx
      split at hx'
      · rename_i hc
        exact .inl ⟨hc.1, hc.2, hx'⟩
      · exact .inr hx'
    have own : ∀ r, (ρ.v i).bind vblk = some r → E.w0.heap.size ≤ r ∧ (∀ (q : Nat) (b : Blk), m[q]? = some b → ρ.b q = some r → b = .dead) ∧ ∀ o, ρ.z r o = none := fun r hr => by
      rw [Option.bind_eq_some_iff] at hr
      obtain ⟨u, h1, h2⟩ := hr
      obtain ⟨_, g2⟩ := h.vok i t l true u hm h1
      rcases g2 with ⟨rfl, _⟩ | ⟨r', c, us, ty, rfl, k2, k3, k4, k5, k6⟩
      · cases h2
      · cases h2
        exact ⟨k4, k5, (k6.2 rfl).1⟩
    have le : Le ρ ⟨ρ.b, ρ.v, z'⟩ := ⟨fun _ _ h => h, fun _ _ h => h, zle⟩
    refine ⟨_, le, rfl, fun j r hj => by simpa using h.dom j r hj, fun j b r h1 h2 o ho => ?_, h.lt, h.inj, fun j b r h1 h2 h3 => ?_, h.kept, h.pre.trans le, h.new, fun j u hj => by simpa using h.vdom j u hj, fun j t' l' b0 u h1 h2 => ?_,
      fun j k t1 l1 b1 t2 l2 b2 u u' r h1 h2 h3 h4 h5 h6 => ?_, fun r o x hx => ?_, fun j b r o h1 h2 h3 => ?_, fun j l' t' r o x h1 h2 h3 => ?_, fun r o x hx hr => ?_⟩
    · rcases get j b h1 with ⟨_, h3⟩ | ⟨rfl, rfl⟩
      · exact (h.ok j b r h3 h2 o ho).mono le
      · trivial
    · rcases get j b h1 with ⟨_, h4⟩ | ⟨rfl, rfl⟩
      · exact h.own j b r h4 h2 h3
      · cases h3
    · rcases get j _ h1 with ⟨hne, h3⟩ | ⟨rfl, e⟩
      · obtain ⟨g1, g2⟩ := h.vok j t' l' b0 u h3 h2
        refine ⟨fun hb => HC.mono zle _ _ _ (g1 hb), g2.imp id fun ⟨r, c, us, ty, k1, k2, k3, k4, k5, k6⟩ => ⟨r, c, us, ty, k1, k2, k3, k4, fun q b h4 h5 => ?_, k6.mono zle fun o x hx => ?_⟩⟩
        · rcases get q b h4 with ⟨_, h6⟩ | ⟨rfl, rfl⟩
          · exact k5 q b h6 h5
          · have := k5 q _ hm h5; cases this
        · rcases zinv r o x hx with ⟨h4, _, _⟩ | h4
          · exfalso
            rw [Option.bind_eq_some_iff] at h4
            obtain ⟨u', h5, h6⟩ := h4
            exact hne (h.vinj j i t' l' b0 t l true u u' r h3 hm h2 h5 (by rw [k1]; rfl) h6)
          · exact h4
      · cases e
        obtain ⟨_, g2⟩ := h.vok j t l true u hm h2
        rcases g2 with ⟨_, _, hb⟩ | ⟨r, c, us, ty, rfl, k2, k3, k4, k5, k6⟩
        · cases hb
        · obtain ⟨hz, hlc, _⟩ := k6.2 rfl
          have hvb : (ρ.v j).bind vblk = some r := by rw [h2]; rfl
          refine ⟨fun _ => ⟨some ⟨r, 0, none⟩, c, rfl, hlc, .inl ⟨r, 0, rfl, fun k x hx => ?_⟩⟩, .inr ⟨r, c, us, ty, rfl, k2, k3, k4, fun q b h4 h5 => ?_, fun _ o x hx => ?_, fun hb => by cases hb⟩⟩
          · obtain ⟨ds, h4, h5⟩ := h.elem j t l true r l.length c hm h2 k x hx
            refine ⟨ds, fun q y hy => ?_, HC.mono zle _ _ _ h4⟩
            have hk := (List.getElem?_eq_some_iff.1 hx).1
            have hq := (List.getElem?_eq_some_iff.1 hy).1
            have hd := HC.length _ _ _ h4
            have hlt : k * t.size + q < l.length * t.size := by
              have h9 : (k + 1) * t.size ≤ l.length * t.size := Nat.mul_le_mul_right _ hk
              rw [Nat.add_mul] at h9
              omega
            show (if (ρ.v j).bind vblk = some r ∧ 0 + k * t.size + q < l.length * t.size then w.cell? ⟨r, 0 + k * t.size + q, none⟩ else _) = some y
            rw [Nat.zero_add, if_pos ⟨hvb, hlt⟩]
            exact h5 q y hy
          · rcases get q b h4 with ⟨_, h6⟩ | ⟨rfl, rfl⟩
            · exact k5 q b h6 h5
            · have := k5 q _ hm h5; cases this
          · rcases zinv r o x hx with ⟨_, h4, _⟩ | h4
            · exact h4
            · rw [hz o] at h4; cases h4
    · obtain ⟨_, _, _, h7⟩ := kv j _ _ _ h1
      obtain ⟨_, _, _, h8⟩ := kv k _ _ _ h2
      exact h.vinj j k _ _ _ _ _ _ u u' r h7 h8 h3 h4 h5 h6
    · rcases zinv r o x hx with ⟨_, _, h4⟩ | h4
      · exact h4
      · exact h.zok r o x h4
    · rcases get j b h1 with ⟨hne, h4⟩ | ⟨rfl, rfl⟩
      · show (if (ρ.v i).bind vblk = some r ∧ o < l.length * t.size then w.cell? ⟨r, o, none⟩ else ρ.z r o) = none
        rw [if_neg (fun hc => by
          have := (own r hc.1).2.1 j b h4 h2
          subst this
          cases h3)]
        exact h.zown j b r o h4 h2 h3
      · cases h3
    · rcases get j _ h1 with ⟨hne, h4⟩ | ⟨rfl, e⟩
      · exact zle _ _ _ (h.zfro j l' t' r o x h4 h2 h3)
      · cases e
    · rcases zinv r o x hx with ⟨h4, _, _⟩ | h4
      · have := (own r h4).1
        omega
      · exact h.znew r o x h4 hr
  · exact ⟨ρ, Le.refl _, rfl, h⟩
theorem Mem.frz (l : List Nat) : ∀ {ρ : Ctx} {m : List Blk}, Mem E ρ m w → ∃ ρ', Le ρ ρ' ∧ Mem E ρ' (frz m l) w := by
  induction l with
  | nil => intro ρ m h; exact ⟨ρ, Le.refl _, h⟩
  | cons i l ih =>
    intro ρ m h
    obtain ⟨ρ1, h1, _, h2⟩ := h.frz1 i
    obtain ⟨ρ2, h3, h4⟩ := ih h2
    exact ⟨ρ2, h1.trans h3, h4⟩

/-! ### plain values from cells -/
/-- what a block shows -/
def lookB (m : List Blk) (i : Nat) : Option Blk :=
  match nth m i with
  | some .dead => none
  | x => x
theorem parseS_agree {t : Ty} {f : List SV → Option (t.den × List SV)} {m m' : List Blk} (h : ∀ i, lookB m i = lookB m' i) (v : SV) : parseS t f m v = parseS t f m' v := by
  cases v with
  | vec i =>
    have := h i
    unfold lookB at this
    simp only [parseS]
    rcases h1 : nth m i with _ | b <;> rcases h2 : nth m' i with _ | b' <;> rw [h1, h2] at this
    · cases b' <;> simp at this <;> rfl
    · cases b <;> simp at this <;> rfl
    · cases b <;> cases b' <;> simp at this <;> first | rfl | (cases this; rfl) | (obtain ⟨rfl, rfl, rfl⟩ := this; rfl) | (obtain ⟨rfl, h9⟩ := this; cases h9; rfl)
  | sl i off n c =>
    have := h i
    unfold lookB at this
    simp only [parseS]
    rcases h1 : nth m i with _ | b <;> rcases h2 : nth m' i with _ | b' <;> rw [h1, h2] at this
    · cases b' <;> simp at this <;> rfl
    · cases b <;> simp at this <;> rfl
    · cases b <;> cases b' <;> simp at this <;> first | rfl | (cases this; rfl) | (obtain ⟨rfl, rfl, rfl⟩ := this; rfl) | (obtain ⟨rfl, h9⟩ := this; cases h9; rfl)
  | val v =>
    cases v <;> first | rfl | (rename_i b _ _; cases b <;> rfl)
  | _ => rfl
theorem parseT_agree {m m' : List Blk} (h : ∀ i, lookB m i = lookB m' i) : ∀ (t : Ty), parseT t m = parseT t m'
  | .int k => rfl
  | .str => rfl
  | .bool => rfl
  | .unit => rfl
  | .pair a b => by
    funext l
    simp only [parseT, parseT_agree h a, parseT_agree h b]
  | .sl t => by
    funext l
    cases l with
    | nil => rfl
    | cons v r =>
      simp only [parseT, parseT_agree h t, parseS_agree h]
/-- what so many values leave of cells -/
theorem parseN_sound {α : Type} {f : List SV → Option (α × List SV)} {H : α → List Value → Prop} (hf : ∀ l x r us, f l = some (x, r) → SV.RL ρ l us → ∃ ds us', us = ds ++ us' ∧ H x ds ∧ SV.RL ρ r us') :
    ∀ (n : Nat) (l : List SV) (xs : List α) (r : List SV) (us : List Value), parseN f n l = some (xs, r) → SV.RL ρ l us → ∃ (dss : List (List Value)) (us' : List Value), us = dss.flatten ++ us' ∧ SV.RL ρ r us' ∧ xs.length = n ∧ dss.length = n ∧ ∀ (i : Nat) (x : α), xs[i]? = some x → ∃ ds, dss[i]? = some ds ∧ H x ds
  | 0, l, xs, r, us, h, hr => by
    simp only [parseN, Option.some.injEq, Prod.mk.injEq] at h
    obtain ⟨rfl, rfl⟩ := h
    exact ⟨[], us, rfl, hr, rfl, rfl, fun i x hx => by simp at hx⟩
  | n + 1, l, xs, r, us, h, hr => by
    unfold parseN at h
    split at h
    · rename_i x0 r0 h0
      split at h
      · rename_i xs' r' h1
        simp only [Option.some.injEq, Prod.mk.injEq] at h
        obtain ⟨rfl, rfl⟩ := h
        obtain ⟨ds, us1, rfl, h2, h3⟩ := hf _ _ _ _ h0 hr
        obtain ⟨dss, us2, rfl, h4, h5, h6, h7⟩ := parseN_sound hf n _ _ _ _ h1 h3
        refine ⟨ds :: dss, us2, by simp, h4, by simp [h5], by simp [h6], fun i x hx => ?_⟩
        cases i with
        | zero => simp at hx; subst hx; exact ⟨ds, rfl, h2⟩
        | succ i =>
          obtain ⟨ds', h8, h9⟩ := h7 i x (by simpa using hx)
          exact ⟨ds', by simpa using h8, h9⟩
      · cases h
    · cases h
/-- the place of a value among values of one size -/
theorem Row.append {z : Nat → Nat → Option Value} {t : Ty} {l l' : List t.den} {cs cs' : List Value} (h : Row z t l cs) (h' : Row z t l' cs') : Row z t (l ++ l') (cs ++ cs') := by
  obtain ⟨dss, rfl, h1, h2⟩ := h
  obtain ⟨dss', rfl, h3, h4⟩ := h'
  refine ⟨dss ++ dss', by simp, by simp [h1, h3], fun i x hx => ?_⟩
  rcases Nat.lt_or_ge i l.length with hi | hi
  · rw [List.getElem?_append_left hi] at hx
    obtain ⟨ds, h5, h6⟩ := h2 i x hx
    exact ⟨ds, by rw [List.getElem?_append_left (by omega)]; exact h5, h6⟩
  · rw [List.getElem?_append_right hi] at hx
    obtain ⟨ds, h5, h6⟩ := h4 _ x hx
    exact ⟨ds, by rw [List.getElem?_append_right (by omega), h1]; exact h5, h6⟩
theorem HC.row {z : Nat → Nat → Option Value} {t : Ty} : ∀ (l : List t.den) (r off : Nat), (∀ (i : Nat) (x : t.den), l[i]? = some x → ∃ ds, ZC z r (off + i * t.size) ds ∧ HC z t x ds) → ∃ cs, Row z t l cs ∧ ZC z r off cs
  | [], r, off, _ => ⟨[], ⟨[], rfl, rfl, fun i x hx => by simp at hx⟩, fun j x hx => by simp at hx⟩
  | x :: l, r, off, h => by
    obtain ⟨ds, h1, h2⟩ := h 0 x rfl
    obtain ⟨cs, ⟨dss, rfl, h3, h4⟩, h5⟩ := HC.row l r (off + t.size) fun i y hy => by
      have := h (i + 1) y (by simpa using hy)
      rw [show off + t.size + i * t.size = off + (i + 1) * t.size by rw [Nat.add_mul]; omega]
      exact this
    refine ⟨ds ++ dss.flatten, ⟨ds :: dss, by simp, by simp [h3], fun i y hy => ?_⟩, fun j y hy => ?_⟩
    · cases i with
      | zero => simp at hy; subst hy; exact ⟨ds, rfl, h2⟩
      | succ i =>
        obtain ⟨d, h6, h7⟩ := h4 i y (by simpa using hy)
        exact ⟨d, by simpa using h6, h7⟩
    · have hlen := HC.length _ _ _ h2
      rcases Nat.lt_or_ge j ds.length with hj | hj
      · rw [List.getElem?_append_left hj] at hy
        have := h1 j y hy
        rw [Nat.zero_mul, Nat.add_zero] at this
        exact this
      · rw [List.getElem?_append_right hj] at hy
        have := h5 _ y hy
        rw [hlen] at this hj
        rw [show off + t.size + (j - t.size) = off + j by omega] at this
        exact this
theorem parseS_sound {t : Ty} {f : List SV → Option (t.den × List SV)} (hM : Mem E ρ m w) (hf : ∀ l x r us, f l = some (x, r) → SV.RL ρ l us → ∃ ds us', us = ds ++ us' ∧ HC ρ.z t x ds ∧ SV.RL ρ r us') {v : SV} {xs : List t.den} {u : Value}
    (h : parseS t f m v = some xs) (hr : v.R ρ u) : HC ρ.z (.sl t) xs [u] := by
  unfold parseS at h
  split at h
  · split at h
    · rename_i t' l e
      subst e
      cases h
      exact hr
    · cases h
  · rename_i i
    split at h
    · rename_i t' l hm
      split at h
      · rename_i e
        subst e
        cases h
        rw [nth_eq] at hm
        exact (hM.vok i _ _ false u hm hr.1).1 rfl
      · cases h
    · cases h
  · split at h
    · rename_i n c e
      obtain ⟨rfl, rfl⟩ := e
      cases h
      obtain rfl : u = .slice none 0 0 := hr
      exact ⟨none, 0, rfl, Nat.le_refl _, .inr ⟨rfl, rfl⟩⟩
    · cases h
  · cases h
    obtain ⟨a, rfl⟩ := hr
    exact ⟨a, 0, rfl, Nat.le_refl _, .inr ⟨rfl, rfl⟩⟩
  · rename_i i off n c
    split at h
    · rename_i cs ty hm
      split at h
      · rename_i hnc
        split at h
        · rename_i l hp
          cases h
          obtain ⟨r, hb, rfl⟩ := hr
          rw [nth_eq] at hm
          obtain ⟨_, ho, us, rfl, hl⟩ := hM.get hm hb
          obtain ⟨dss, us', h1, h2, h3, h4, h5⟩ := parseN_sound (H := HC ρ.z t) hf n _ _ _ _ hp ((hl.drop off).take (n * t.size))
          rw [SV.RL] at h2
          subst h2
          rw [List.append_nil] at h1
          have hcells : ∀ o x, us[o]? = some x → ρ.z r o = some x := fun o x hx => hM.zfro i cs ty r o x hm hb (by simp [World.cell?, ho, hx])
          have hu : (.slice (some ⟨r, off, none⟩) n c : Value) = .slice (some ⟨r, off, none⟩) xs.length c := by rw [h3]
          rw [hu]
          refine ⟨_, c, rfl, by rw [h3]; exact hnc, .inl ⟨r, off, rfl, fun j x hx => ?_⟩⟩
          obtain ⟨ds, h6, h7⟩ := h5 j x hx
          refine ⟨ds, fun q y hy => ?_, h7⟩
          have h8 := flatten_get dss (Row.uni (h4.trans h3.symm) h5) j ds h6 q y hy
          rw [← h1, List.getElem?_take] at h8
          split at h8
          · rw [List.getElem?_drop, ← Nat.add_assoc] at h8
            exact hcells _ y h8
          · cases h8
        · cases h
      · cases h
    · cases h
  · cases h
theorem parseT_sound (hM : Mem E ρ m w) : ∀ (t : Ty) (l : List SV) (x : t.den) (r : List SV) (us : List Value), parseT t m l = some (x, r) → SV.RL ρ l us → ∃ ds us', us = ds ++ us' ∧ HC ρ.z t x ds ∧ SV.RL ρ r us'
  | .int k, l, x, r, us, h, hr => by
    unfold parseT at h
    split at h
    · split at h
      · rename_i k' n r' hk
        subst hk
        cases h
        obtain ⟨u, us', rfl, h1, h2⟩ := hr
        have h1' : u = .int k' n := h1
        subst h1'
        exact ⟨[_], us', rfl, rfl, h2⟩
      · cases h
    · cases h
  | .str, l, x, r, us, h, hr => by
    unfold parseT at h
    split at h
    · cases h
      obtain ⟨u, us', rfl, h1, h2⟩ := hr
      have h1' : u = .string x := h1
      subst h1'
      exact ⟨[_], us', rfl, rfl, h2⟩
    · cases h
  | .bool, l, x, r, us, h, hr => by
    unfold parseT at h
    split at h
    · cases h
      obtain ⟨u, us', rfl, h1, h2⟩ := hr
      have h1' : u = .bool x := h1
      subst h1'
      exact ⟨[_], us', rfl, rfl, h2⟩
    · cases h
  | .unit, l, x, r, us, h, hr => by
    unfold parseT at h
    cases h
    exact ⟨[], us, rfl, rfl, hr⟩
  | .pair a b, l, x, r, us, h, hr => by
    unfold parseT at h
    split at h
    · rename_i xa ra ha
      split at h
      · rename_i xb rb hb
        cases h
        obtain ⟨d1, us1, rfl, h1, h2⟩ := parseT_sound hM a _ _ _ _ ha hr
        obtain ⟨d2, us2, rfl, h3, h4⟩ := parseT_sound hM b _ _ _ _ hb h2
        exact ⟨d1 ++ d2, us2, by simp, ⟨d1, d2, rfl, h1, h3⟩, h4⟩
      · cases h
    · cases h
  | .sl t, l, x, r, us, h, hr => by
    unfold parseT at h
    split at h
    · rename_i v r'
      split at h
      · rename_i xs hs
        cases h
        obtain ⟨u, us', rfl, h1, h2⟩ := hr
        exact ⟨[u], us', rfl, parseS_sound hM (fun l x r us => parseT_sound hM t l x r us) hs h1, h2⟩
      · cases h
    · cases h

/-- what is known of the list that is appended to -/
def HeadOk (E : Env) (ρ : Ctx) (m : List Blk) (w : World) (t : Ty) (l : List t.den) (b : Bool) (u : Value) : Prop :=
  (u = .slice none 0 0 ∧ l = [] ∧ b = false) ∨ ∃ (r c : Nat) (us : Array Value) (ty : TypeId), u = .slice (some ⟨r, 0, none⟩) l.length c ∧ w.heap[r]? = some (.cells us ty (0, 0)) ∧ us.size = c * t.size ∧ l.length ≤ c ∧ E.w0.heap.size ≤ r ∧
    (∀ (i : Nat) (b : Blk), m[i]? = some b → ρ.b i = some r → b = .dead) ∧ (∀ (i : Nat) (t' : Ty) (l' : List t'.den) (b' : Bool) (u' : Value), m[i]? = some (.vec t' l' b') → ρ.v i = some u' → vblk u' ≠ some r) ∧
    ((b = false → ∀ o x, ρ.z r o = some x → o < l.length * t.size) ∧ (b = true → ∀ o, ρ.z r o = none)) ∧ ∃ cs : List Value, Row ρ.z t l cs ∧ ∀ (j : Nat) (y : Value), cs[j]? = some y → us[j]? = some y
theorem kill_get {i j : Nat} {b : Blk} (h : (m.set i .dead)[j]? = some b) : b = .dead ∨ (j ≠ i ∧ m[j]? = some b) := by
  rw [List.getElem?_set] at h
  split at h
  · split at h
    · cases h; exact .inl rfl
    · cases h
  · rename_i e
    exact .inr ⟨fun e2 => e e2.symm, h⟩
theorem headS_sound (hM : Mem E ρ m w) {t : Ty} {v : SV} {l : List t.den} {u : Value} (h : headS t m v = some (l, m')) (hr : v.R ρ u) : Mem E ρ m' w ∧ HeadOk E ρ m' w t l (headW m v) u := by
  unfold headS at h
  split at h
  · rename_i i
    split at h
    · rename_i t' l0 b hm
      have hw : headW m (.vec i) = b := by unfold headW; simp only; rw [hm]
      split at h
      · rename_i e
        subst e
        cases h
        rw [hw]
        rw [nth_eq] at hm
        have hv := hr.1
        obtain ⟨g1, g2⟩ := hM.vok i _ _ b u hm hv
        refine ⟨hM.kill i, ?_⟩
        rcases g2 with ⟨rfl, e2, e3⟩ | ⟨r, c, us, ty, k1, k2, k3, k4, k5, k6⟩
        · exact .inl ⟨rfl, e2, e3⟩
        · have row : ∃ cs : List Value, l0.length ≤ c ∧ Row ρ.z t' l0 cs ∧ ∀ (j : Nat) (y : Value), cs[j]? = some y → us[j]? = some y := by
            cases b with
            | false =>
              obtain ⟨base, c', e1, e2, e3⟩ := g1 rfl
              rw [k1] at e1
              simp only [List.cons.injEq, Value.slice.injEq, and_true, true_and] at e1
              obtain ⟨rfl, rfl⟩ := e1
              rcases e3 with ⟨r', off, e4, e5⟩ | ⟨e4, e5⟩
              · cases e4
                obtain ⟨cs, h6, h7⟩ := HC.row _ r 0 e5
                refine ⟨cs, e2, h6, fun j y hy => ?_⟩
                have h8 := hM.zok _ _ _ (h7 j y hy)
                rw [Nat.zero_add] at h8
                simpa [World.cell?, k2] using h8
              · rw [e4]
                exact ⟨[], by simp, ⟨[], rfl, rfl, fun i x hx => by simp at hx⟩, fun j y hy => by simp at hy⟩
            | true =>
              obtain ⟨_, h1, cs, h2, h3⟩ := k6.2 rfl
              exact ⟨cs, h1, h2, h3⟩
          obtain ⟨cs, e2, h6, h7⟩ := row
          refine .inr ⟨r, c, us, ty, k1, k2, k3, e2, k4, fun q b h3 h4 => ?_, fun q t' l' b' u' h3 h4 h5 => ?_, ⟨k6.1, fun hb => (k6.2 hb).1⟩, cs, h6, h7⟩
          · rcases kill_get h3 with h5 | ⟨_, h5⟩
            · exact h5
            · exact k5 q b h5 h4
          · rcases kill_get h3 with h6 | ⟨hne, h6⟩
            · cases h6
            · exact hne (hM.vinj q i _ _ _ _ _ _ u' u r h6 hm h4 hv h5 (by rw [k1]; rfl))
      · cases h
    · cases h
  · split at h
    · rename_i n c e
      obtain ⟨rfl, rfl⟩ := e
      cases h
      obtain rfl : u = .slice none 0 0 := hr
      exact ⟨hM, .inl ⟨rfl, rfl, rfl⟩⟩
    · cases h
  · rename_i i n c
    split at h
    · rename_i cs ty hm
      split at h
      · rename_i hc
        obtain ⟨rfl, hlen⟩ := hc
        split at h
        · rename_i l0 hp
          cases h
          rw [nth_eq] at hm
          obtain ⟨r, hb, rfl⟩ := hr
          obtain ⟨_, ho, us, rfl, hl⟩ := hM.get hm hb
          obtain ⟨dss, us', h1, h2, h3, h4, h5⟩ := parseN_sound (H := HC ρ.z t) (fun l x r us => parseT_sound hM t l x r us) n _ _ _ _ hp hl
          rw [SV.RL] at h2
          subst h2
          rw [List.append_nil] at h1
          have hz : ∀ o, ρ.z r o = none := fun o => hM.zown i _ r o hm hb rfl
          refine ⟨hM.kill i, .inr ⟨r, n, us.toArray, ty, by rw [h3], ho, by rw [← hlen, ← hl.length]; simp, by omega, hM.own i _ r hm hb rfl, fun q b h6 h7 => ?_, fun q t' l' b' u' h6 h7 h8 => ?_, ⟨fun _ o x hx => ?_, fun _ => hz⟩, us, ⟨dss, h1, h4.trans h3.symm, h5⟩, fun j y hy => by simpa using hy⟩⟩
          · rcases kill_get h6 with h9 | ⟨hne, _⟩
            · exact h9
            · exact absurd (hM.inj q i r h7 hb) hne
          · rcases kill_get h6 with h9 | ⟨_, h9⟩
            · cases h9
            · obtain ⟨_, g2⟩ := hM.vok q _ _ _ u' h9 h7
              rcases g2 with ⟨rfl, _⟩ | ⟨r', c, us', ty', k1, _, _, _, k5, _⟩
              · cases h8
              · rw [k1] at h8
                cases h8
                have := k5 i _ hm hb
                cases this
          · rw [hz o] at hx
            cases hx
        · cases h
      · cases h
    · cases h
  · cases h

/-- a list of ours behind an append -/
theorem Mem.vecStep (hM : Mem E ρ m w) {t : Ty} {L : List t.den} (bw : Bool) {w' : World} {g c : Nat} {us : Array Value} {ty : TypeId} (hos : w'.os = w.os) (htape : w'.tape = w.tape) (hout : w'.output = w.output) (hsz : w.heap.size ≤ w'.heap.size)
    (hold : ∀ k : Nat, k < w.heap.size → k ≠ g → w'.heap[k]? = w.heap[k]?) (hg : w'.heap[g]? = some (.cells us ty (0, 0))) (hus : us.size = c * t.size) (hc : L.length ≤ c)
    (hfree : w.heap.size ≤ g ∨ (E.w0.heap.size ≤ g ∧ (∀ (i : Nat) (b : Blk), m[i]? = some b → ρ.b i = some g → b = .dead) ∧ (∀ (i : Nat) (t' : Ty) (l' : List t'.den) (b' : Bool) (u' : Value), m[i]? = some (.vec t' l' b') → ρ.v i = some u' → vblk u' ≠ some g) ∧
      ((bw = false → ∀ (o : Nat) (x : Value), ρ.z g o = some x → o < L.length * t.size ∧ us[o]? = some x) ∧ (bw = true → ∀ o, ρ.z g o = none)))) {cs : List Value} (hrow : Row ρ.z t L cs) (hcs : ∀ (j : Nat) (y : Value), cs[j]? = some y → us[j]? = some y) :
    ∃ ρ', ρ'.b = ρ.b ∧ Le ρ ρ' ∧ (SV.vec m.length).R ρ' (.slice (some ⟨g, 0, none⟩) L.length c) ∧ Mem E ρ' (m ++ [.vec t L bw]) w' := by
  have gw0 : E.w0.heap.size ≤ g := by
    rcases hfree with h | h
    · exact Nat.le_trans hM.kept.size h
    · exact h.1
  have zg : ∀ (o : Nat) (x : Value), ρ.z g o = some x → o < L.length * t.size ∧ us[o]? = some x := fun o x hx => by
    rcases hfree with h | h
    · have := cell_lt (hM.zok _ _ _ hx)
      simp only at this
      omega
    · cases hb : bw with
      | false => exact h.2.2.2.1 hb o x hx
      | true => have := h.2.2.2.2 hb o; rw [this] at hx; cases hx
  have zt : bw = true → ∀ o, ρ.z g o = none := fun hb o => by
    cases hz : ρ.z g o with
    | none => rfl
    | some x =>
      rcases hfree with h | h
      · have := cell_lt (hM.zok _ _ _ hz)
        simp only at this
        omega
      · rw [h.2.2.2.2 hb o] at hz; cases hz
  have bg : ∀ (i : Nat) (b : Blk), m[i]? = some b → ρ.b i = some g → b = .dead := fun i b h1 h2 => by
    rcases hfree with h | h
    · have := hM.lt i g h2
      omega
    · exact h.2.1 i b h1 h2
  have vg : ∀ (i : Nat) (t' : Ty) (l' : List t'.den) (b' : Bool) (u' : Value), m[i]? = some (.vec t' l' b') → ρ.v i = some u' → vblk u' ≠ some g := fun i t' l' b' u' h1 h2 h3 => by
    rcases hfree with h | h
    · obtain ⟨_, g2⟩ := hM.vok i _ _ _ u' h1 h2
      rcases g2 with ⟨rfl, _⟩ | ⟨r', c, us', ty', k1, k2, _⟩
      · cases h3
      · rw [k1] at h3
        cases h3
        rw [Array.getElem?_eq_none h] at k2
        cases k2
    · exact h.2.2.1 i t' l' b' u' h1 h2 h3
  let z' : Nat → Nat → Option Value := fun r o => if bw = false ∧ r = g ∧ o < L.length * t.size then us[o]? else ρ.z r o
  have zle : ∀ r o x, ρ.z r o = some x → z' r o = some x := fun r o x hx => by
    show (if bw = false ∧ r = g ∧ o < L.length * t.size then us[o]? else ρ.z r o) = some x
    split
    · rename_i h
      obtain ⟨_, rfl, _⟩ := h
      exact (zg o x hx).2
    · exact hx
  have zinv : ∀ r o x, z' r o = some x → (bw = false ∧ r = g ∧ o < L.length * t.size ∧ us[o]? = some x) ∨ ρ.z r o = some x := fun r o x hx => by
    have hx' : (if bw = false ∧ r = g ∧ o < L.length * t.size then us[o]? else ρ.z r o) = some x := hx
    split at hx'
    · rename_i h
      exact .inl ⟨h.1, h.2.1, h.2.2, hx'⟩
    · exact .inr hx'
  let ρ' : Ctx := ⟨ρ.b, fun i => if i = m.length then some (.slice (some ⟨g, 0, none⟩) L.length c) else ρ.v i, z'⟩
  have le : Le ρ ρ' := ⟨fun _ _ h => h, fun i u hu => by
    show (if i = m.length then _ else ρ.v i) = some u
    rw [if_neg (fun e => by have := hM.vdom i u hu; omega)]
    exact hu, zle⟩
  have vsplit : ∀ (i : Nat) (t' : Ty) (l' : List t'.den) (b' : Bool) (u' : Value), (m ++ [Blk.vec t L bw])[i]? = some (.vec t' l' b') → ρ'.v i = some u' → (i = m.length ∧ u' = .slice (some ⟨g, 0, none⟩) L.length c ∧ Blk.vec t' l' b' = Blk.vec t L bw) ∨ (m[i]? = some (.vec t' l' b') ∧ ρ.v i = some u') := fun i t' l' b' u' h1 h2 => by
    have h2' : (if i = m.length then some (Value.slice (some ⟨g, 0, none⟩) L.length c) else ρ.v i) = some u' := h2
    split at h2'
    · rename_i e
      subst e
      rw [List.getElem?_append_right (Nat.le_refl _)] at h1
      simp only [Nat.sub_self, List.getElem?_cons_zero, Option.some.injEq] at h1
      exact .inl ⟨rfl, (Option.some.inj h2').symm, h1.symm⟩
    · rename_i e
      have := hM.vdom i u' h2'
      rw [List.getElem?_append_left this] at h1
      exact .inr ⟨h1, h2'⟩
  have mget : ∀ (i : Nat) (b' : Blk) (r : Nat), (m ++ [Blk.vec t L bw])[i]? = some b' → ρ.b i = some r → m[i]? = some b' := fun i b' r h1 h2 => by
    rw [List.getElem?_append_left (hM.dom i r h2)] at h1
    exact h1
  have hHC : bw = false → HC z' (.sl t) L [.slice (some ⟨g, 0, none⟩) L.length c] := fun hbf => by
    refine ⟨some ⟨g, 0, none⟩, c, rfl, hc, .inl ⟨g, 0, rfl, fun i x hx => ?_⟩⟩
    obtain ⟨ds, h1, h2⟩ := hrow.get hx
    refine ⟨ds, fun j y hy => ?_, HC.mono zle _ _ _ h1⟩
    have h3 := hcs _ _ (h2 j y hy)
    have hi := (List.getElem?_eq_some_iff.1 hx).1
    have hj := (List.getElem?_eq_some_iff.1 hy).1
    have hd := HC.length _ _ _ h1
    have hlt : i * t.size + j < L.length * t.size := by
      have h5 : (i + 1) * t.size ≤ L.length * t.size := Nat.mul_le_mul_right _ hi
      rw [Nat.add_mul] at h5
      omega
    show (if bw = false ∧ g = g ∧ 0 + i * t.size + j < L.length * t.size then us[0 + i * t.size + j]? else _) = some y
    rw [Nat.zero_add, if_pos ⟨hbf, rfl, hlt⟩]
    exact h3
  have hbl : ∀ k : Nat, k < E.w0.heap.size → w'.heap[k]? = w.heap[k]? := fun k hk => hold k (Nat.lt_of_lt_of_le hk hM.kept.size) (by omega)
  refine ⟨ρ', rfl, le, ⟨if_pos rfl, _, _, _, rfl⟩, fun i r h1 => by have := hM.dom i r h1; simp; omega, fun i b r h1 h2 o ho => ?_, fun i r h1 => Nat.lt_of_lt_of_le (hM.lt i r h1) hsz, hM.inj, fun i b r h1 h2 h3 => hM.own i b r (mget i b r h1 h2) h2 h3,
    ⟨hos.trans hM.kept.os, htape.trans hM.kept.tape, hout.trans hM.kept.output, Nat.le_trans hM.kept.size hsz, fun k hk hS => (hbl k hk).trans (hM.kept.block k hk hS)⟩, hM.pre.trans le, hM.new, fun i u h1 => ?_, fun i t' l' b' u' h1 h2 => ?_, fun i j t1 l1 b1 t2 l2 b2 u1 u2 r h1 h2 h3 h4 h5 h6 => ?_, fun r o x hx => ?_, fun i b r o h1 h2 h3 => ?_, fun i l t' r o x h1 h2 h3 => ?_, fun r o x hx hr => ?_⟩
  · have h3 := mget i b r h1 h2
    by_cases hrg : r = g
    · subst hrg
      rw [bg i b h3 h2]
      trivial
    · exact (hM.ok i b r h3 h2 o ((hold r (hM.lt i r h2) hrg).symm.trans ho)).mono le
  · have h1' : (if i = m.length then _ else ρ.v i) = some u := h1
    split at h1'
    · rename_i e; simp; omega
    · have := hM.vdom i u h1'; simp; omega
  · rcases vsplit i t' l' b' u' h1 h2 with ⟨rfl, rfl, e⟩ | ⟨h3, h4⟩
    · cases e
      refine ⟨hHC, .inr ⟨g, c, us, ty, rfl, hg, hus, gw0, fun q b h5 h6 => bg q b (mget q b g h5 h6) h6, fun _ o x hx => ?_, fun hb => ⟨fun o => ?_, hc, cs, hrow.mono zle, hcs⟩⟩⟩
      · rcases zinv g o x hx with ⟨_, _, h7, _⟩ | h7
        · exact h7
        · exact (zg o x h7).1
      · cases hz : z' g o with
        | none => exact hz
        | some x =>
          rcases zinv g o x hz with ⟨h7, _⟩ | h7
          · rw [hb] at h7; cases h7
          · rw [zt hb o] at h7; cases h7
    · obtain ⟨g1, g2⟩ := hM.vok i t' l' b' u' h3 h4
      refine ⟨fun hb => HC.mono zle _ _ _ (g1 hb), g2.imp id fun ⟨r, c1, us1, ty1, k1, k2, k3, k4, k5, k6⟩ => ?_⟩
      have hrg : r ≠ g := fun e => vg i t' l' b' u' h3 h4 (by rw [k1, e]; rfl)
      have hlt : r < w.heap.size := by
        rcases Nat.lt_or_ge r w.heap.size with h7 | h7
        · exact h7
        · rw [Array.getElem?_eq_none h7] at k2; cases k2
      refine ⟨r, c1, us1, ty1, k1, by rw [hold r hlt hrg]; exact k2, k3, k4, fun q b h5 h6 => k5 q b (mget q b r h5 h6) h6, k6.mono zle fun o x hx => ?_⟩
      rcases zinv r o x hx with ⟨_, h7, _⟩ | h7
      · exact absurd h7 hrg
      · exact h7
  · rcases vsplit i t1 l1 b1 u1 h1 h3 with ⟨rfl, rfl, e1⟩ | ⟨h7, h8⟩ <;> rcases vsplit j t2 l2 b2 u2 h2 h4 with ⟨rfl, rfl, e2⟩ | ⟨h9, h10⟩
    · rfl
    · cases h5
      exact absurd h6 (vg j t2 l2 b2 u2 h9 h10)
    · cases h6
      exact absurd h5 (vg i t1 l1 b1 u1 h7 h8)
    · exact hM.vinj i j t1 l1 b1 t2 l2 b2 u1 u2 r h7 h9 h8 h10 h5 h6
  · rcases zinv r o x hx with ⟨_, rfl, _, h7⟩ | h7
    · simp [World.cell?, hg, h7]
    · by_cases hrg : r = g
      · subst hrg
        have := (zg o x h7).2
        simp [World.cell?, hg, this]
      · have h8 := hM.zok r o x h7
        rw [cell_eq (w := w) (hold r (cell_lt h8) hrg)]
        exact h8
  · have h4 := mget i b r h1 h2
    have hrg : r ≠ g := fun e => by subst e; rw [bg i b h4 h2] at h3; cases h3
    show (if bw = false ∧ r = g ∧ o < L.length * t.size then us[o]? else ρ.z r o) = none
    rw [if_neg (fun h => hrg h.2.1)]
    exact hM.zown i b r o h4 h2 h3
  · have h4 := mget i _ r h1 h2
    have hrg : r ≠ g := fun e => by subst e; have := bg i _ h4 h2; cases this
    apply zle
    refine hM.zfro i l t' r o x h4 h2 ?_
    rw [← h3]
    exact (cell_eq (w := w) (hold r (hM.lt i r h2) hrg)).symm
  · rcases zinv r o x hx with ⟨_, rfl, _⟩ | h7
    · omega
    · exact hM.znew r o x h7 hr

theorem Mem.vecNil (hM : Mem E ρ m w) (t : Ty) : ∃ ρ', ρ'.b = ρ.b ∧ Le ρ ρ' ∧ (SV.vec m.length).R ρ' (.slice none 0 0) ∧ Mem E ρ' (m ++ [.vec t []]) w := by
  let ρ' : Ctx := ⟨ρ.b, fun i => if i = m.length then some (.slice none 0 0) else ρ.v i, ρ.z⟩
  have le : Le ρ ρ' := ⟨fun _ _ h => h, fun i u hu => by
    show (if i = m.length then _ else ρ.v i) = some u
    rw [if_neg (fun e => by have := hM.vdom i u hu; omega)]
    exact hu, fun _ _ _ h => h⟩
  have vsplit : ∀ (i : Nat) (t' : Ty) (l' : List t'.den) (b' : Bool) (u' : Value), (m ++ [Blk.vec t []])[i]? = some (.vec t' l' b') → ρ'.v i = some u' → (i = m.length ∧ u' = .slice none 0 0 ∧ Blk.vec t' l' b' = Blk.vec t []) ∨ (m[i]? = some (.vec t' l' b') ∧ ρ.v i = some u') := fun i t' l' b' u' h1 h2 => by
    have h2' : (if i = m.length then some (Value.slice none 0 0) else ρ.v i) = some u' := h2
    split at h2'
    · rename_i e
      subst e
      rw [List.getElem?_append_right (Nat.le_refl _)] at h1
      simp only [Nat.sub_self, List.getElem?_cons_zero, Option.some.injEq] at h1
      exact .inl ⟨rfl, (Option.some.inj h2').symm, h1.symm⟩
    · rename_i e
      have := hM.vdom i u' h2'
      rw [List.getElem?_append_left this] at h1
      exact .inr ⟨h1, h2'⟩
  have mget : ∀ (i : Nat) (b' : Blk) (r : Nat), (m ++ [Blk.vec t []])[i]? = some b' → ρ.b i = some r → m[i]? = some b' := fun i b' r h1 h2 => by
    rw [List.getElem?_append_left (hM.dom i r h2)] at h1
    exact h1
  refine ⟨ρ', rfl, le, ⟨if_pos rfl, _, _, _, rfl⟩, fun i r h1 => by have := hM.dom i r h1; simp; omega, fun i b r h1 h2 o ho => (hM.ok i b r (mget i b r h1 h2) h2 o ho).mono le, hM.lt, hM.inj, fun i b r h1 h2 h3 => hM.own i b r (mget i b r h1 h2) h2 h3,
    hM.kept, hM.pre.trans le, hM.new, fun i u h1 => ?_, fun i t' l' b' u' h1 h2 => ?_, fun i j t1 l1 b1 t2 l2 b2 u1 u2 r h1 h2 h3 h4 h5 h6 => ?_, hM.zok, fun i b r o h1 h2 h3 => hM.zown i b r o (mget i b r h1 h2) h2 h3, fun i l t' r o x h1 h2 h3 => hM.zfro i l t' r o x (mget i _ r h1 h2) h2 h3, hM.znew⟩
  · have h1' : (if i = m.length then _ else ρ.v i) = some u := h1
    split at h1'
    · rename_i e; simp; omega
    · have := hM.vdom i u h1'; simp; omega
  · rcases vsplit i t' l' b' u' h1 h2 with ⟨rfl, rfl, e⟩ | ⟨h3, h4⟩
    · cases e
      exact ⟨fun _ => ⟨none, 0, rfl, Nat.le_refl _, .inr ⟨rfl, rfl⟩⟩, .inl ⟨rfl, rfl, rfl⟩⟩
    · obtain ⟨g1, g2⟩ := hM.vok i t' l' b' u' h3 h4
      exact ⟨g1, g2.imp id fun ⟨r, c1, us1, ty1, k1, k2, k3, k4, k5, k6⟩ => ⟨r, c1, us1, ty1, k1, k2, k3, k4, fun q b h5 h6 => k5 q b (mget q b r h5 h6) h6, k6⟩⟩
  · rcases vsplit i t1 l1 b1 u1 h1 h3 with ⟨rfl, rfl, e1⟩ | ⟨h7, h8⟩ <;> rcases vsplit j t2 l2 b2 u2 h2 h4 with ⟨rfl, rfl, e2⟩ | ⟨h9, h10⟩
    · rfl
    · cases h5
    · cases h6
    · exact hM.vinj i j t1 l1 b1 t2 l2 b2 u1 u2 r h7 h9 h8 h10 h5 h6
theorem HC.one {z : Nat → Nat → Option Value} : ∀ (t : Ty) (x : t.den) (cs : List Value), HC z t x cs → ∀ v ∈ cs, v.oneCell' = true
  | .int _, _, _, h, v, hv => by rw [HC] at h; subst h; simp at hv; subst hv; rfl
  | .str, _, _, h, v, hv => by rw [HC] at h; subst h; simp at hv; subst hv; rfl
  | .bool, _, _, h, v, hv => by rw [HC] at h; subst h; simp at hv; subst hv; rfl
  | .unit, _, _, h, v, hv => by rw [HC] at h; subst h; simp at hv
  | .pair a b, x, cs, ⟨c1, c2, h1, h2, h3⟩, v, hv => by
    subst h1
    rcases List.mem_append.1 hv with h | h
    · exact HC.one a _ _ h2 v h
    · exact HC.one b _ _ h3 v h
  | .sl t, l, cs, ⟨base, c, h1, _, _⟩, v, hv => by subst h1; simp at hv; subst hv; rfl
theorem Row.one {z : Nat → Nat → Option Value} {t : Ty} {l : List t.den} {cs : List Value} (h : Row z t l cs) : ∀ v ∈ cs, v.oneCell' = true := by
  obtain ⟨dss, rfl, h1, h2⟩ := h
  intro v hv
  obtain ⟨d, hd, hvd⟩ := List.mem_flatten.1 hv
  obtain ⟨i, hi, he⟩ := List.getElem_of_mem hd
  have hl : i < l.length := by omega
  obtain ⟨ds, h3, h4⟩ := h2 i l[i] (List.getElem?_eq_getElem hl)
  rw [List.getElem?_eq_getElem hi, he] at h3
  cases h3
  exact HC.one _ _ _ h4 v hvd
theorem partS_sound (hM : Mem E ρ m w) {t : Ty} {v : SV} {l : List t.den} {u : Value} (h : partS t m v = some l) (hr : v.R ρ u) :
    ∃ (news : List Value) (b : Option Addr) (c : Nat), Row ρ.z t l news ∧ u = .slice b l.length c ∧ (l = [] ∨ ∃ a, b = some a ∧ ∀ (j : Nat) (y : Value), news[j]? = some y → w.cell? (a.add j) = some y) := by
  have gen : ∀ (base : Option Addr) (c : Nat), HC ρ.z (.sl t) l [u] → ∃ (news : List Value) (b : Option Addr) (c : Nat), Row ρ.z t l news ∧ u = .slice b l.length c ∧ (l = [] ∨ ∃ a, b = some a ∧ ∀ (j : Nat) (y : Value), news[j]? = some y → w.cell? (a.add j) = some y) := fun _ _ hh => by
    obtain ⟨base, c, e1, _, e2⟩ := hh
    have e1' : u = .slice base l.length c := by simpa using e1
    rcases e2 with ⟨r, off, rfl, e3⟩ | ⟨rfl, _⟩
    · obtain ⟨cs, h1, h2⟩ := HC.row l r off e3
      exact ⟨cs, _, c, h1, e1', .inr ⟨_, rfl, fun j y hy => by rw [addr_add]; exact hM.zok _ _ _ (h2 j y hy)⟩⟩
    · exact ⟨[], _, c, ⟨[], rfl, rfl, fun i x hx => by simp at hx⟩, e1', .inl rfl⟩
  unfold partS at h
  split at h
  · rename_i i off n c
    split at h
    · rename_i cs ty wr hm
      split at h
      · rename_i l0 hp
        cases h
        obtain ⟨r, hb, rfl⟩ := hr
        rw [nth_eq] at hm
        obtain ⟨_, ho, us, rfl, hl⟩ := hM.get hm hb
        obtain ⟨dss, us', h1, h2, h3, h4, h5⟩ := parseN_sound (H := HC ρ.z t) (fun l x r us => parseT_sound hM t l x r us) n _ _ _ _ hp ((hl.drop off).take (n * t.size))
        rw [SV.RL] at h2
        subst h2
        rw [List.append_nil] at h1
        refine ⟨dss.flatten, _, c, ⟨dss, rfl, h4.trans h3.symm, h5⟩, by rw [h3], .inr ⟨_, rfl, fun j y hy => ?_⟩⟩
        rw [← h1, List.getElem?_take] at hy
        split at hy
        · rw [List.getElem?_drop] at hy
          rw [addr_add]
          simp [World.cell?, ho, hy]
        · cases hy
      · cases h
    · cases h
  · exact gen none 0 (parseS_sound hM (fun l x r us => parseT_sound hM t l x r us) h hr)
theorem run_append_room' (t ty e e' : TypeId) (i : TypeInfo) (ht : P.underlying t = some (.slice e)) (hi : P.info? e = some i)
    (g sLen sCap : Nat) (cur : Array Value) (hg : w.heap[g]? = some (.cells cur e' (0, 0)))
    (a : Addr) (k c : Nat) (news : List Value) (hl : news.length = k * i.size) (hnews : ∀ j u, news[j]? = some u → w.cell? (a.add j) = some u) (h1 : ∀ u ∈ news, u.oneCell' = true)
    (hroom : sLen + k ≤ sCap) (hfit : sLen * i.size + news.length ≤ cur.size) :
    (Builtin.append_ #[t, t] ty #[.slice (some ⟨g, 0, none⟩) sLen sCap, .slice (some a) k c]).run P w =
      .ok (.slice (some ⟨g, 0, none⟩) (sLen + k) sCap) (w.setRow g (cur.toList.take (sLen * i.size) ++ news ++ cur.toList.drop (sLen * i.size + news.length)).toArray) := by
  have hf := run_firstCells_some (P := P) w i.size k a k c news hl hnews
  have hst := run_storeCells_at P g (sLen * i.size) e' news 0 cur w hg (by simpa using hfit) h1
  simp only [Nat.add_zero] at hst
  simp [Builtin.append_, run_underlying ht, sizeOf, typeInfo, hi, Builtin.lenOf, hroom, hf, Addr.add_lit, hst]
theorem run_append_zero (t ty e : TypeId) (i : TypeInfo) (ht : P.underlying t = some (.slice e)) (hi : P.info? e = some i) (b b' : Option Addr) (n c c' : Nat) (hc : n ≤ c) :
    (Builtin.append_ #[t, t] ty #[.slice b n c, .slice b' 0 c']).run P w = .ok (.slice b n c) w := by
  cases b <;> cases b' <;> simp [Builtin.append_, run_underlying ht, sizeOf, typeInfo, hi, Builtin.lenOf, hc, Builtin.firstCells, loadCells, loadCellsFrom, storeCells]
theorem info_of {e : TypeId} {sz by_ : Nat} {z : Value} (h1 : tySize P e = some sz) (h2 : tyBytes P e = some by_) (h3 : tyZero P e = some z) : ∃ i, P.info? e = some i ∧ i.size = sz ∧ i.bytes = by_ ∧ i.zero = some z := by
  unfold tySize at h1
  unfold tyBytes at h2
  unfold tyZero at h3
  cases hi : P.info? e with
  | none => rw [hi] at h1; cases h1
  | some i =>
    rw [hi] at h1 h2 h3
    simp only [Option.map_some, Option.some.injEq, Option.bind_some] at h1 h2 h3
    exact ⟨i, rfl, h1, h2, h3⟩
theorem append_core {t1 e : TypeId} {t : Ty} {i : TypeInfo} {sz by_ : Nat} {z : Value} {l l' : List t.den} {u1 : Value} {news : List Value} {b : Option Addr} {c' : Nat} {bw : Bool} (hM : Mem E ρ m w) (hu : P.underlying t1 = some (.slice e)) (hi : P.info? e = some i) (hi1 : i.size = sz + 1) (hi2 : i.bytes = by_) (hi3 : i.zero = some z)
    (hszt : sz + 1 = t.size) (hbound : by_ ≤ 1048576) (hzc : z.cells.size = sz + 1) (hH : HeadOk E ρ m w t l bw u1) (hlen : l.length + l'.length ≤ 1048576) (hrow' : Row ρ.z t l' news) (hload : l' = [] ∨ ∃ a, b = some a ∧ ∀ (j : Nat) (y : Value), news[j]? = some y → w.cell? (a.add j) = some y) (ty : TypeId) :
    ∃ u' w' ρ', (Builtin.append_ #[t1, t1] ty #[u1, .slice b l'.length c']).run P w = .ok u' w' ∧ (SV.vec m.length).R ρ' u' ∧ Mem E ρ' (m ++ [.vec t (l ++ l') bw]) w' ∧ Le ρ ρ' ∧ ρ'.b = ρ.b := by
  have hsi : i.size = t.size := by omega
  have hL : (l ++ l').length = l.length + l'.length := List.length_append
  have hone := hrow'.one
  have hnl := hrow'.len
  have hbytes : (l.length + l'.length) * i.bytes ≤ 140737488355328 := by
    have h1 : (l.length + l'.length) * i.bytes ≤ 1048576 * 1048576 := Nat.mul_le_mul hlen (by omega)
    omega
  have hzs : i.zero = some z := hi3
  have hcz : z.cells.size = i.size := by omega
  have fin : ∀ (w' : World) (g c : Nat) (us : Array Value) (ty' : TypeId) (cs : List Value), (Builtin.append_ #[t1, t1] ty #[u1, .slice b l'.length c']).run P w = .ok (.slice (some ⟨g, 0, none⟩) (l.length + l'.length) c) w' →
      w'.os = w.os → w'.tape = w.tape → w'.output = w.output → w.heap.size ≤ w'.heap.size → (∀ k : Nat, k < w.heap.size → k ≠ g → w'.heap[k]? = w.heap[k]?) → w'.heap[g]? = some (.cells us ty' (0, 0)) → us.size = c * t.size → l.length + l'.length ≤ c →
      (w.heap.size ≤ g ∨ (E.w0.heap.size ≤ g ∧ (∀ (i : Nat) (b : Blk), m[i]? = some b → ρ.b i = some g → b = .dead) ∧ (∀ (i : Nat) (t' : Ty) (l' : List t'.den) (b' : Bool) (u' : Value), m[i]? = some (.vec t' l' b') → ρ.v i = some u' → vblk u' ≠ some g) ∧
        ((bw = false → ∀ (o : Nat) (x : Value), ρ.z g o = some x → o < (l ++ l').length * t.size ∧ us[o]? = some x) ∧ (bw = true → ∀ o, ρ.z g o = none)))) → Row ρ.z t (l ++ l') cs → (∀ (j : Nat) (y : Value), cs[j]? = some y → us[j]? = some y) →
      ∃ u' w' ρ', (Builtin.append_ #[t1, t1] ty #[u1, .slice b l'.length c']).run P w = .ok u' w' ∧ (SV.vec m.length).R ρ' u' ∧ Mem E ρ' (m ++ [.vec t (l ++ l') bw]) w' ∧ Le ρ ρ' ∧ ρ'.b = ρ.b := by
    intro w' g c us ty' cs hrun h1 h2 h3 h4 h5 h6 h7 h8 h9 h10 h11
    obtain ⟨ρ2, eb, le2, hv, hM3⟩ := hM.vecStep (L := l ++ l') bw h1 h2 h3 h4 h5 h6 h7 (by rw [hL]; exact h8) h9 h10 h11
    rw [hL] at hv
    exact ⟨_, w', ρ2, hrun, hv, hM3, le2, eb⟩
  have big : ¬ l' = [] → 0 < l'.length := fun h => List.length_pos_iff.2 h
  rcases hH with ⟨rfl, rfl, rfl⟩ | ⟨r, c, us, ty0, rfl, k2, k3, k4, k5, k6, k7, k8, cs, k9, k10⟩
  · by_cases h0 : l' = []
    · subst h0
      obtain ⟨ρ2, eb, le2, hv, hM3⟩ := hM.vecNil t
      exact ⟨_, w, ρ2, run_append_zero t1 ty e i hu hi _ _ 0 0 _ (Nat.le_refl _), hv, hM3, le2, eb⟩
    · obtain ⟨a, rfl, hnews⟩ := hload.resolve_left h0
      have hp := big h0
      have hr := run_append_nil (P := P) w t1 ty e i z hu hi hzs a l'.length c' news (by rw [hnl, hsi]) hnews hp (by simp only [List.length_nil] at hlen; omega) (by simp only [List.length_nil, Nat.zero_add] at hbytes; omega)
      have hge := grownCap_ge w l'.length 0 e
      refine fin (w.drew.alloc (.cells (news.toArray ++ Builtin.zeroCells z.cells (grownCap w l'.length 0 e - l'.length)) e)) w.heap.size (grownCap w l'.length 0 e) _ e news (by simpa using hr) rfl rfl rfl (by show w.heap.size ≤ (w.heap.push _).size; simp) (fun k hk _ => heap_alloc_old w.drew _ k hk) (heap_alloc_new w.drew _) ?_ (by simpa using hge) (.inl (Nat.le_refl _)) (by simpa using hrow') ?_
      · simp only [Array.size_append, List.size_toArray, size_zeroCells, hcz, hnl, hsi, ← Nat.add_mul]
        congr 1
        omega
      · intro j y hy
        have := (List.getElem?_eq_some_iff.1 hy).1
        rw [Array.getElem?_append_left (by simpa using this)]
        simpa using hy
  · by_cases h0 : l' = []
    · subst h0
      refine fin w r c us ty0 cs (by simpa using run_append_zero t1 ty e i hu hi _ _ l.length c _ k4) rfl rfl rfl (Nat.le_refl _) (fun k _ _ => rfl) k2 k3 (by simpa using k4) (.inr ⟨k5, k6, k7, ⟨fun hb o x hx => ?_, k8.2⟩⟩) (by simpa using k9) k10
      refine ⟨by simpa using k8.1 hb o x hx, ?_⟩
      have := hM.zok _ _ _ hx
      simpa [World.cell?, k2] using this
    · obtain ⟨a, rfl, hnews⟩ := hload.resolve_left h0
      have hp := big h0
      have hcl := k9.len
      have ucs : ∀ (o : Nat) (x : Value), o < l.length * t.size → us[o]? = some x → cs[o]? = some x := fun o x ho hx => by
        obtain ⟨y, hy⟩ : ∃ y, cs[o]? = some y := ⟨cs[o]'(by omega), List.getElem?_eq_getElem _⟩
        have := k10 o y hy
        rw [hx] at this
        rw [hy, this]
      have hrow2 := k9.append hrow'
      by_cases hroom : l.length + l'.length ≤ c
      · have hfit : l.length * i.size + news.length ≤ us.size := by rw [hnl, hsi, k3, ← Nat.add_mul]; exact Nat.mul_le_mul_right _ hroom
        have hr := run_append_room' (P := P) t1 ty e ty0 i hu hi r l.length c us k2 a l'.length c' news (by rw [hnl, hsi]) hnews hone hroom hfit
        rw [hsi] at hr hfit
        have htk : us.toList.take (l.length * t.size) = cs := by
          apply List.ext_getElem?
          intro j
          rw [List.getElem?_take]
          split
          · rename_i hj
            obtain ⟨y, hy⟩ : ∃ y, cs[j]? = some y := ⟨cs[j]'(by omega), List.getElem?_eq_getElem _⟩
            rw [hy]
            simpa using k10 j y hy
          · rw [List.getElem?_eq_none (by omega)]
        have hus' : ∀ (j : Nat) (y : Value), (cs ++ news)[j]? = some y → (us.toList.take (l.length * t.size) ++ news ++ us.toList.drop (l.length * t.size + news.length)).toArray[j]? = some y := fun j y hy => by
          rw [htk]
          have := (List.getElem?_eq_some_iff.1 hy).1
          simp only [List.getElem?_toArray]
          rw [List.getElem?_append_left this]
          exact hy
        refine fin _ r c _ ty0 (cs ++ news) hr rfl rfl rfl (by simp [World.setRow]) (fun k hk hne => setRow_other w r k _ hne) (setRow_heap w r us _ ty0 _ k2) ?_ hroom (.inr ⟨k5, k6, k7, ⟨fun hb o x hx => ?_, k8.2⟩⟩) hrow2 hus'
        · simp only [List.size_toArray, List.length_append, List.length_take, List.length_drop, Array.length_toList]
          omega
        · have ho := k8.1 hb o x hx
          have hux : us[o]? = some x := by
            have := hM.zok _ _ _ hx
            simpa [World.cell?, k2] using this
          refine ⟨by rw [hL, Nat.add_mul]; omega, hus' o x ?_⟩
          rw [List.getElem?_append_left (by omega)]
          exact ucs o x ho hux
      · have holds : ∀ j u, cs[j]? = some u → w.cell? ((⟨r, 0, none⟩ : Addr).add j) = some u := fun j u hju => by
          rw [addr_add, Nat.zero_add]
          have := k10 j u hju
          simp [World.cell?, k2, this]
        have hr := run_append_grow (P := P) w t1 ty e i z hu hi hzs ⟨r, 0, none⟩ l.length c cs (by rw [hcl, hsi]) holds a l'.length c' news (by rw [hnl, hsi]) hnews (by omega) (by omega) (growslice_fits (by omega) hbytes)
        have hge := grownCap_ge w (l.length + l'.length) c e
        refine fin _ w.heap.size _ _ e (cs ++ news) hr rfl rfl rfl (by show w.heap.size ≤ (w.heap.push _).size; simp) (fun k hk _ => heap_alloc_old w.drew _ k hk) (heap_alloc_new w.drew _) ?_ hge (.inl (Nat.le_refl _)) hrow2 ?_
        · simp only [Array.size_append, List.size_toArray, size_zeroCells, hcz, hcl, hnl, hsi, ← Nat.add_mul]
          congr 1
          omega
        · intro j y hy
          have := (List.getElem?_eq_some_iff.1 hy).1
          rw [Array.getElem?_append_left (by simpa using this)]
          simpa using hy
theorem append_emp {t1 e : TypeId} {t : Ty} {i : TypeInfo} {sz by_ : Nat} {z : Value} {l' : List t.den} {a0 : Option Addr} {news : List Value} {b : Option Addr} {c' : Nat} (hM : Mem E ρ m w) (hu : P.underlying t1 = some (.slice e)) (hi : P.info? e = some i) (hi1 : i.size = sz + 1) (hi2 : i.bytes = by_) (hi3 : i.zero = some z)
    (hszt : sz + 1 = t.size) (hbound : by_ ≤ 1048576) (hzc : z.cells.size = sz + 1) (hlen : l'.length ≤ 1048576) (hrow' : Row ρ.z t l' news) (hload : l' = [] ∨ ∃ a, b = some a ∧ ∀ (j : Nat) (y : Value), news[j]? = some y → w.cell? (a.add j) = some y) (h0 : l' ≠ []) (ty : TypeId) :
    ∃ u' w' ρ', (Builtin.append_ #[t1, t1] ty #[.slice a0 0 0, .slice b l'.length c']).run P w = .ok u' w' ∧ (SV.vec m.length).R ρ' u' ∧ Mem E ρ' (m ++ [.vec t l' true]) w' ∧ Le ρ ρ' := by
  have hsi : i.size = t.size := by omega
  have hnl := hrow'.len
  have hbytes : l'.length * i.bytes ≤ 140737488355328 := by
    have h1 : l'.length * i.bytes ≤ 1048576 * 1048576 := Nat.mul_le_mul hlen (by omega)
    omega
  have hcz : z.cells.size = i.size := by omega
  have hp : 0 < l'.length := List.length_pos_iff.2 h0
  obtain ⟨a, rfl, hnews⟩ := hload.resolve_left h0
  have hr : (Builtin.append_ #[t1, t1] ty #[.slice a0 0 0, .slice (some a) l'.length c']).run P w = .ok (.slice (some ⟨w.heap.size, 0, none⟩) l'.length (grownCap w l'.length 0 e)) (w.drew.alloc (.cells (news.toArray ++ Builtin.zeroCells z.cells (grownCap w l'.length 0 e - l'.length)) e)) := by
    cases a0 with
    | none => exact run_append_nil (P := P) w t1 ty e i z hu hi hi3 a l'.length c' news (by rw [hnl, hsi]) hnews hp (by omega) (by omega)
    | some b0 =>
      have := run_append_grow (P := P) w t1 ty e i z hu hi hi3 b0 0 0 [] (by simp) (fun j v h => by simp at h) a l'.length c' news (by rw [hnl, hsi]) hnews (by omega) (by omega) (growslice_fits (by omega) (by simpa using hbytes))
      simpa using this
  have hge := grownCap_ge w l'.length 0 e
  obtain ⟨ρ2, _, le2, hv, hM3⟩ := hM.vecStep (L := l') (w' := w.drew.alloc (.cells (news.toArray ++ Builtin.zeroCells z.cells (grownCap w l'.length 0 e - l'.length)) e)) (g := w.heap.size) (c := grownCap w l'.length 0 e) true rfl rfl rfl (by show w.heap.size ≤ (w.heap.push _).size; simp) (fun k hk _ => heap_alloc_old w.drew _ k hk) (heap_alloc_new w.drew _) (by
      simp only [Array.size_append, List.size_toArray, size_zeroCells, hcz, hnl, hsi, ← Nat.add_mul]
      congr 1
      omega) hge (.inl (Nat.le_refl _)) hrow' (fun j y hy => by
      have := (List.getElem?_eq_some_iff.1 hy).1
      rw [Array.getElem?_append_left (by simpa using this)]
      simpa using hy)
  exact ⟨_, _, ρ2, hr, hv, hM3, le2⟩
theorem frz1_length (m : List Blk) (i : Nat) : (frz1 m i).length = m.length := by
  unfold frz1
  split <;> simp
theorem frz_length (l : List Nat) : ∀ m : List Blk, (frz m l).length = m.length := by
  induction l with
  | nil => intro m; rfl
  | cons i l ih =>
    intro m
    show (frz (frz1 m i) l).length = m.length
    rw [ih, frz1_length]
theorem append_sound {ts : List TypeId} {x y v : SV} {u1 u2 : Value} (hM : Mem E ρ m w) (hx : x.R ρ u1) (hy : y.R ρ u2) (h : (sxAppend P ts x y m).res = some (v, m')) (ty : TypeId) :
    ∃ u' w' ρ', (Builtin.append_ ts.toArray ty #[u1, u2]).run P w = .ok u' w' ∧ v.R ρ' u' ∧ Mem E ρ' m' w' ∧ Le ρ ρ' := by
  unfold sxAppend at h
  split at h
  · rename_i t1 t2
    split at h
    · rename_i ht12
      subst ht12
      split at h
      · rename_i e hu
        split at h
        · rename_i t sz by_ z hty hsz hby hz
          split at h
          · rename_i hcond
            obtain ⟨hszt, hbound, hzc⟩ := hcond
            split at h
            · obtain ⟨ρ1, le1, hM1⟩ := hM.frz (reach m 6 (innerS m y))
              split at h
              · rename_i l' hpt
                obtain ⟨hlen, h⟩ := R3.need_some h
                have hlen := of_decide_eq_true hlen
                obtain ⟨a0, rfl⟩ := hx
                obtain ⟨news, b, c', hrow', rfl, hload⟩ := partS_sound hM1 hpt (SV.R.mono le1 y u2 hy)
                obtain ⟨i, hi, hi1, hi2, hi3⟩ := info_of hsz hby hz
                unfold R3.res at h
                cases he : List.isEmpty l' with
                | true =>
                  rw [he] at h
                  cases h
                  obtain rfl : l' = [] := List.isEmpty_iff.1 he
                  exact ⟨_, w, ρ1, run_append_zero t1 ty e i hu hi _ _ 0 0 _ (Nat.le_refl _), ⟨a0, rfl⟩, hM1, le1⟩
                | false =>
                  rw [he] at h
                  cases h
                  obtain ⟨u', w', ρ2, g1, g2, g3, g4⟩ := append_emp (P := P) (a0 := a0) hM1 hu hi hi1 hi2 hi3 hszt hbound hzc hlen hrow' hload (fun e => by rw [e] at he; cases he) ty
                  rw [frz_length] at g2
                  exact ⟨u', w', ρ2, g1, g2, g3, le1.trans g4⟩
              · cases h
            obtain ⟨ρ1, le1, hM1⟩ := hM.frz (reach m 6 (innerS m x ++ innerS m y))
            split at h
            · rename_i l m2 hhd
              split at h
              · rename_i l' hpt
                obtain ⟨hlen, h⟩ := R3.need_some h
                cases h
                have hlen := of_decide_eq_true hlen
                obtain ⟨hM2, hH⟩ := headS_sound hM1 hhd (SV.R.mono le1 _ u1 hx)
                obtain ⟨news, b, c', hrow', rfl, hload⟩ := partS_sound hM2 hpt (SV.R.mono le1 y u2 hy)
                obtain ⟨i, hi, hi1, hi2, hi3⟩ := info_of hsz hby hz
                obtain ⟨u', w', ρ2, g1, g2, g3, g4, _⟩ := append_core (P := P) hM2 hu hi hi1 hi2 hi3 hszt hbound hzc hH hlen hrow' hload ty
                exact ⟨u', w', ρ2, g1, g2, g3, le1.trans g4⟩
              · cases h
            · cases h
          · cases h
        · cases h
      · cases h
    · cases h
  · cases h
theorem flatten_div {α : Type} {k : Nat} (hk : 0 < k) : ∀ (dss : List (List α)), (∀ d ∈ dss, d.length = k) → ∀ j, dss.flatten[j]? = (dss[j / k]?).bind fun d => d[j % k]?
  | [], _, j => by simp
  | d :: dss, h, j => by
    have hd : d.length = k := h d (by simp)
    rw [List.flatten_cons]
    by_cases hj : j < k
    · rw [List.getElem?_append_left (by omega), Nat.div_eq_of_lt hj, Nat.mod_eq_of_lt hj]
      rfl
    · rw [List.getElem?_append_right (by omega), hd, flatten_div hk dss (fun d hd => h d (by simp [hd])) (j - k)]
      have e1 : j / k = (j - k) / k + 1 := Nat.div_eq_sub_div hk (by omega)
      have e2 : j % k = (j - k) % k := Nat.mod_eq_sub_mod (by omega)
      rw [e1, e2]
      rfl
/-- an element of a list of ours is written -/
theorem Mem.vecWrite (hM : Mem E ρ m w) {i : Nat} {t : Ty} {l l2 : List t.den} {r n c : Nat} {us us2 : Array Value} {ty : TypeId} (hm : m[i]? = some (.vec t l true)) (hv : ρ.v i = some (.slice (some ⟨r, 0, none⟩) n c)) (hlen : l2.length = l.length)
    (hheap : w.heap[r]? = some (.cells us ty (0, 0))) (hsz : us2.size = us.size) {cs : List Value} (hrow : Row ρ.z t l2 cs) (hcs : ∀ (j : Nat) (y : Value), cs[j]? = some y → us2[j]? = some y) :
    Mem E ρ (m.set i (.vec t l2 true)) { w with heap := w.heap.setIfInBounds r (.cells us2 ty (0, 0)) } := by
  have other : ∀ k : Nat, k ≠ r → (w.heap.setIfInBounds r (.cells us2 ty (0, 0)))[k]? = w.heap[k]? := fun k hk => by
    rw [Array.getElem?_setIfInBounds_ne (Ne.symm hk)]
  obtain ⟨_, g⟩ := hM.vok i t l true _ hm hv
  rcases g with ⟨e, _⟩ | ⟨r', c', us', ty', e, k2, k3, k4, k5, k6⟩
  · cases e
  · cases e
    rw [hheap] at k2
    cases k2
    obtain ⟨hz, hlc, _⟩ := k6.2 rfl
    have hlt : r < w.heap.size := by
      rcases Nat.lt_or_ge r w.heap.size with h | h
      · exact h
      · rw [Array.getElem?_eq_none h] at hheap; cases hheap
    have znr : ∀ r' o x, ρ.z r' o = some x → r' ≠ r := fun r' o x hx e => by
      subst e
      rw [hz o] at hx
      cases hx
    have mget : ∀ (j : Nat) (b : Blk), (m.set i (.vec t l2 true))[j]? = some b → (j = i ∧ b = .vec t l2 true) ∨ (j ≠ i ∧ m[j]? = some b) := fun j b h1 => by
      rw [List.getElem?_set] at h1
      split at h1
      · rename_i hij
        split at h1
        · cases h1; exact .inl ⟨hij.symm, rfl⟩
        · cases h1
      · rename_i hij
        exact .inr ⟨fun e => hij e.symm, h1⟩
    have vold : ∀ (j : Nat) (t' : Ty) (l' : List t'.den) (b : Bool), (m.set i (.vec t l2 true))[j]? = some (.vec t' l' b) → ∃ (t0 : Ty) (l0 : List t0.den) (b0 : Bool), m[j]? = some (.vec t0 l0 b0) := fun j t' l' b h1 => by
      rcases mget j _ h1 with ⟨rfl, _⟩ | ⟨_, h2⟩
      · exact ⟨t, l, true, hm⟩
      · exact ⟨_, _, _, h2⟩
    refine ⟨fun j r' h1 => by simpa using hM.dom j r' h1, fun j b' r' h1 h2 o ho => ?_, fun j r' h1 => by simpa using hM.lt j r' h1, hM.inj, fun j b' r' h1 h2 h3 => ?_, ?_, hM.pre, hM.new, fun j u h1 => by simpa using hM.vdom j u h1, fun j t' l' b u h1 h2 => ?_, fun j k t1 l1 b1 t2 l2 b2 u1 u2 r h1 h2 h3 h4 h5 h6 => ?_, fun r' o x hx => ?_, fun j b' r' o h1 h2 h3 => ?_, fun j l' t' r' o x h1 h2 h3 => ?_, hM.znew⟩
    · rcases mget j b' h1 with ⟨_, rfl⟩ | ⟨_, h4⟩
      · trivial
      · by_cases hr : r' = r
        · subst hr
          rw [k5 j b' h4 h2]
          trivial
        · exact hM.ok j b' r' h4 h2 o ((other r' hr).symm.trans ho)
    · rcases mget j b' h1 with ⟨_, rfl⟩ | ⟨_, h4⟩
      · cases h3
      · exact hM.own j b' r' h4 h2 h3
    · refine ⟨hM.kept.os, hM.kept.tape, hM.kept.output, by simpa using hM.kept.size, fun k hk hS => ?_⟩
      rw [other k (by omega)]
      exact hM.kept.block k hk hS
    · rcases mget j _ h1 with ⟨rfl, e⟩ | ⟨hne, h4⟩
      · cases e
        rw [hv] at h2
        cases h2
        refine ⟨fun hb => (by cases hb), .inr ⟨r, c, us2, ty, (by rw [hlen]), (by simp [hlt]), (by rw [hsz]; exact k3), k4, fun q b h3 h4 => ?_, fun hb => (by cases hb), fun _ => ⟨hz, by omega, cs, hrow, hcs⟩⟩⟩
        rcases mget q b h3 with ⟨rfl, _⟩ | ⟨_, h5⟩
        · have := k5 q _ hm h4
          cases this
        · exact k5 q b h5 h4
      · obtain ⟨g1, g2⟩ := hM.vok j t' l' b u h4 h2
        refine ⟨g1, g2.imp id fun ⟨r2, c2, us3, ty3, q1, q2, q3, q4, q5, q6⟩ => ?_⟩
        have hr2 : r2 ≠ r := fun e => by
          subst e
          exact hne (hM.vinj j i t' l' b t l true u _ r2 h4 hm h2 hv (by rw [q1]; rfl) rfl)
        refine ⟨r2, c2, us3, ty3, q1, by rw [other r2 hr2]; exact q2, q3, q4, fun q b h5 h6 => ?_, q6⟩
        rcases mget q b h5 with ⟨rfl, _⟩ | ⟨_, h7⟩
        · have := q5 q _ hm h6
          cases this
        · exact q5 q b h7 h6
    · obtain ⟨_, _, _, h7⟩ := vold j _ _ _ h1
      obtain ⟨_, _, _, h8⟩ := vold k _ _ _ h2
      exact hM.vinj j k _ _ _ _ _ _ u1 u2 _ h7 h8 h3 h4 h5 h6
    · have h1 := hM.zok r' o x hx
      rw [cell_eq (w := w) (other r' (znr r' o x hx))]
      exact h1
    · rcases mget j b' h1 with ⟨_, rfl⟩ | ⟨_, h4⟩
      · cases h3
      · exact hM.zown j b' r' o h4 h2 h3
    · rcases mget j _ h1 with ⟨_, e⟩ | ⟨_, h4⟩
      · cases e
      · have hr : r' ≠ r := fun e => by
          subst e
          have := k5 j _ h4 h2
          cases this
        refine hM.zfro j l' t' r' o x h4 h2 ?_
        rw [← h3]
        exact (cell_eq (w := w) (other r' hr)).symm
theorem store_sound {v : SV} {t : TypeId} {x y : SV} {u u2 : Value} (hM : Mem E ρ m w) (hx : x.R ρ u) (hy : y.R ρ u2) (h : (sxStore P t x y m).res = some (v, m')) :
    ∃ w', (Instr.storeAt t u u2).run P w = .ok () w' ∧ v = .val undef ∧ Mem E ρ m' w' := by
  unfold sxStore at h
  split at h
  · rename_i i off
    obtain ⟨r, hr, rfl⟩ := hx
    rw [nth_eq] at h
    split at h
    · rename_i b hm
      split at h
      · rename_i b' hb
        cases h
        obtain ⟨w', h1, h2⟩ := stBlk_sound (P := P) hM hr hm hy hb
        exact ⟨w', h1, rfl, h2⟩
      · cases h
    · cases h
  · rename_i i sz k off
    obtain ⟨r, n0, c0, hv, rfl⟩ := hx
    rw [nth_eq] at h
    split at h
    · rename_i ty l hm
      split at h
      · rename_i cs n hcs hs
        split at h
        · rename_i hc
          obtain ⟨rfl, hcl, hoff, hat⟩ := hc
          split at h
          · rename_i y' hp
            obtain ⟨hk, h⟩ := R3.need_some h
            cases h
            have hk := of_decide_eq_true hk
            obtain ⟨_, g⟩ := hM.vok i ty l true _ hm hv
            rcases g with ⟨e, _⟩ | ⟨r', c', us, tyi, e, k2, k3, k4, k5, k6⟩
            · cases e
            · cases e
              obtain ⟨hz, hlc, cs0, ⟨dss, rfl, h2, h3⟩, h4⟩ := k6.2 rfl
              obtain ⟨ds, h5, h6⟩ := h3 k l[k] (List.getElem?_eq_getElem hk)
              have hgd : List.getD l k ty.dflt = l[k] := by rw [List.getD_eq_getElem?_getD, List.getElem?_eq_getElem hk]; rfl
              rw [hgd] at hp
              have hvr := atom_R hy hcs
              have hval : u2.cells.toList.all atomic = true := atoms_R hat hvr
              have hlv : u2.cells.toList.length = n := by rw [hvr.length]; exact hcl
              obtain ⟨ds2, us', g1, g2, g3⟩ := parseT_sound hM ty _ _ _ _ hp (RL.lay (flatT_R ty l[k] ds h6) hvr off)
              rw [SV.RL] at g3
              subst g3
              rw [List.append_nil] at g1
              have huni := Row.uni h2 h3
              have hdl : ds.length = ty.size := HC.length _ _ _ h6
              have hd2 : ds2.length = ty.size := HC.length _ _ _ g2
              have hfl : dss.flatten.length = l.length * ty.size := by rw [flatten_len dss huni, h2]
              have hus : l.length * ty.size ≤ us.size := by rw [k3]; exact Nat.mul_le_mul_right _ hlc
              have hul : us.toList.length = us.size := Array.length_toList
              have hkl : k * ty.size + ty.size ≤ l.length * ty.size := by rw [← Nat.succ_mul]; exact Nat.mul_le_mul_right _ hk
              have hrun := run_storeFrom (P := P) (r := r) (off := k * ty.size + off) u2.cells.toList 0 w us.toList (by simpa using k2) (by rw [hlv]; simp only [Array.length_toList]; omega) hval
              rw [Nat.add_zero] at hrun
              refine ⟨_, ?_, rfl, hM.vecWrite (l2 := l.set k y') (us2 := (lay us.toList (k * ty.size + off) u2.cells.toList).toArray) hm hv (by simp) k2 ?_ (cs := (dss.set k ds2).flatten) ⟨dss.set k ds2, rfl, by simpa using h2, fun q x hq => ?_⟩ fun q x hq => ?_⟩
              · have hsz : u2.cells.size = n := by simpa using hlv
                simp only [Instr.storeAt, Instr.sureAddr, storeVar, Sem.run_bind, Sem.run_pure, Result.andThen_ok, run_size hs, hsz, ne_eq, not_true_eq_false, if_false]
                exact hrun
              · unfold lay
                simp only [List.size_toArray, List.length_append, List.length_take, List.length_drop, Array.length_toList, hlv]
                omega
              · rw [List.getElem?_set] at hq ⊢
                by_cases hqk : k = q
                · subst hqk
                  rw [if_pos rfl, if_pos hk] at hq
                  cases hq
                  exact ⟨ds2, by rw [if_pos rfl, if_pos (by omega)], g2⟩
                · rw [if_neg hqk] at hq ⊢
                  exact h3 q x hq
              · have hpos : 0 < ty.size := by
                  rcases Nat.eq_zero_or_pos ty.size with h0 | h0
                  · exfalso
                    have := (List.getElem?_eq_some_iff.1 hq).1
                    rw [flatten_len (k := ty.size) (dss.set k ds2) (fun d hd => by rcases List.mem_or_eq_of_mem_set hd with h | h; exact huni d h; rw [h]; exact hd2), h0] at this
                    omega
                  · exact h0
                rw [flatten_div hpos _ (fun d hd => by rcases List.mem_or_eq_of_mem_set hd with h | h; exact huni d h; rw [h]; exact hd2)] at hq
                rw [Option.bind_eq_some_iff] at hq
                obtain ⟨d, hq1, hq2⟩ := hq
                rw [List.getElem?_set] at hq1
                have hdm := Nat.div_add_mod q ty.size
                have hmod := Nat.mod_lt q hpos
                have old : ∀ d', dss[q / ty.size]? = some d' → ∀ x', d'[q % ty.size]? = some x' → us[q]? = some x' := fun d' e1 x' e2 => by
                  refine h4 q x' ?_
                  rw [flatten_div hpos dss huni, e1]
                  exact e2
                simp only [List.getElem?_toArray]
                unfold lay
                by_cases hqk : k = q / ty.size
                · rw [if_pos hqk] at hq1
                  split at hq1
                  · cases hq1
                    rw [← g1] at hq2
                    unfold lay at hq2
                    have eq : q = k * ty.size + q % ty.size := by rw [hqk, Nat.mul_comm]; omega
                    have hdk : dss[q / ty.size]? = some ds := by rw [← hqk]; exact h5
                    by_cases hb1 : q % ty.size < off
                    · rw [List.append_assoc, List.getElem?_append_left (by rw [List.length_take]; omega), List.getElem?_take_of_lt hb1] at hq2
                      rw [List.append_assoc, List.getElem?_append_left (by rw [List.length_take, Array.length_toList]; omega), List.getElem?_take_of_lt (by omega)]
                      simpa using old ds hdk x hq2
                    · by_cases hb2 : q % ty.size < off + n
                      · rw [List.append_assoc, List.getElem?_append_right (by rw [List.length_take]; omega), List.length_take, List.getElem?_append_left (by rw [hlv]; omega)] at hq2
                        rw [List.append_assoc, List.getElem?_append_right (by rw [List.length_take, Array.length_toList]; omega), List.length_take, Array.length_toList, List.getElem?_append_left (by rw [hlv]; omega)]
                        rw [← hq2]
                        congr 1
                        omega
                      · rw [List.getElem?_append_right (by rw [List.length_append, List.length_take, hlv]; omega), List.length_append, List.length_take, hlv, List.getElem?_drop] at hq2
                        rw [List.getElem?_append_right (by rw [List.length_append, List.length_take, hlv, Array.length_toList]; omega), List.length_append, List.length_take, hlv, Array.length_toList, List.getElem?_drop]
                        have := old ds hdk x (by rw [← hq2]; congr 1; omega)
                        rw [← Array.getElem?_toList] at this
                        rw [← this]
                        congr 1
                        omega
                  · cases hq1
                · rw [if_neg hqk] at hq1
                  have ho := old d hq1 x hq2
                  rw [← Array.getElem?_toList] at ho
                  by_cases hb1 : q < k * ty.size + off
                  · rw [List.append_assoc, List.getElem?_append_left (by rw [List.length_take, Array.length_toList]; omega), List.getElem?_take_of_lt hb1]
                    exact ho
                  · have hb2 : k * ty.size + off + n ≤ q := by
                      rcases Nat.lt_or_ge q (k * ty.size + off + n) with h | h
                      · exfalso
                        apply hqk
                        have e1 : k = q / ty.size := by
                          rw [eq_comm, Nat.div_eq_iff hpos]
                          constructor
                          · omega
                          · have : k * ty.size + ty.size - 1 = k * ty.size + (ty.size - 1) := by omega
                            omega
                        exact e1
                      · exact h
                    rw [List.getElem?_append_right (by rw [List.length_append, List.length_take, hlv, Array.length_toList]; omega), List.length_append, List.length_take, hlv, Array.length_toList, List.getElem?_drop]
                    rw [← ho]
                    congr 1
                    omega
          · cases h
        · cases h
      · cases h
    · cases h
  · cases h
end
end Go.SX

/-
  A symbolic executor: every operation is as the model does it.
-/
namespace Go.SX
set_option linter.unusedSimpArgs false
set_option linter.unusedVariables false
open Go.RowKit

section
variable {E : Env} {P : Program} {ρ : Ctx} {m m' : List Blk} {w : World} {a : Act} {o : Oper} {ev : Operand → SV} {v : SV}

theorem RL.map_ops (he : ∀ x, (ev x).R ρ (a.eval x)) : ∀ l : List Operand, SV.RL ρ (l.map ev) (l.map a.eval)
  | [] => rfl
  | x :: l => ⟨_, _, rfl, he x, RL.map_ops he l⟩

theorem partV_run {t : TypeId} {cs : Array Value} {off : Nat} {v : Value} (h : partV P t cs off = some v) : (part t cs off).run P w = .ok v w := by
  unfold partV at h
  cases hg : tyAgg P t with
  | none => rw [hg] at h; cases h
  | some g =>
    rw [hg] at h
    cases g with
    | true =>
      simp only [Option.map_eq_some_iff] at h
      obtain ⟨n, hs, rfl⟩ := h
      simp [part, run_agg hg, run_size hs]
    | false =>
      simp only at h
      simp [part, run_agg hg, h]
theorem eqV_run : ∀ (n d : Nat) (t : TypeId) (x y : Value) (b : Bool), n ≤ d → eqV P n t x y = some b → (Op.equalIn d t x y).run P w = .ok b w
  | 0, _, _, _, _, _, _, h => by cases h
  | n + 1, 0, _, _, _, _, hd, _ => by omega
  | n + 1, d + 1, t, x, y, b, hd, h => by
    unfold eqV at h
    split at h
    · rename_i hu
      split at h
      · cases h; simp [Op.equalIn, run_type hu]
      · cases h
    · rename_i kd hu
      split at h
      · split at h
        · rename_i hk
          subst hk
          cases h
          simp [Op.equalIn, run_type hu]
        · cases h
      · cases h
    · rename_i hu
      split at h
      · cases h; simp [Op.equalIn, run_type hu]
      · cases h
    · rename_i fields hu
      split at h
      · rename_i xs ys
        split at h
        · cases h
        · rename_i hs
          have hs' : P.stoodInHeld t = false := by simpa using hs
          simp only [Op.equalIn, Sem.run_bind, run_type hu, Result.andThen_ok, program, Sem.run, hs', Bool.false_eq_true, if_false]
          rw [← Array.forIn_toList]
          generalize fields.toList = fs at h ⊢
          have key : ∀ (fs : List Field) (b : Bool), fs.foldr (fun f r => if f.name = "_" then none else match partV P f.type xs f.offset, partV P f.type ys f.offset, r with
              | some u, some v, some c => (eqV P n f.type u v).map (· && c)
              | _, _, _ => none) (some true) = some b →
              (forIn fs ((none : Option Bool), ()) fun f _ =>
                if f.name ≠ "_" then do
                  let u ← part f.type xs f.offset
                  let v ← part f.type ys f.offset
                  let r ← Op.equalIn d f.type u v
                  if (!r) = true then pure (ForInStep.done (some false, ())) else pure (ForInStep.yield (none, ()))
                else pure (ForInStep.yield (none, ())) : Sem (Option Bool × Unit)).run P w = .ok (if b then none else some false, ()) w := by
            intro fs
            induction fs with
            | nil => intro b h; cases h; simp
            | cons f fs ih =>
              intro b h
              simp only [List.foldr_cons] at h
              split at h
              · cases h
              · rename_i hf
                split at h
                · rename_i u v c hu' hv' hc
                  simp only [Option.map_eq_some_iff] at h
                  obtain ⟨e, he, rfl⟩ := h
                  have h1 := eqV_run n d f.type u v e (by omega) he
                  simp only [List.forIn_cons, ne_eq, hf, not_false_eq_true, if_true, Sem.run_bind, partV_run hu', partV_run hv', h1, Result.andThen_ok]
                  cases e
                  · simp
                  · have h9 := ih c hc
                    simp only [ne_eq] at h9
                    simp only [Bool.not_true, Bool.false_eq_true, if_false, Sem.run_pure, Result.andThen_ok, Bool.true_and]
                    exact h9
                · cases h
          have := key fs b h
          simp only [ne_eq] at this ⊢
          rw [this]
          cases b <;> simp
      · cases h
    · cases h
theorem check_plain {kt : TypeId} {kind : TypeDesc} (hk : P.underlying kt = some kind) (hp : keyKind kind = true) (e : Bool) (n : Nat) (v : Value) : (Instr.checkKey e (n + 1) kt v).run P w = .ok () w := by
  cases kind <;> simp only [keyKind] at hp <;> first | (cases hp; done) | simp [Instr.checkKey, run_type hk]
theorem newMap_flat {t : TypeId} : (newMap P t).flat = true := by
  unfold newMap
  split
  · split <;> rfl
  · rfl
theorem newMap_O {t : TypeId} : (newMap P t).O ρ (.map #[] 0) := by
  unfold newMap
  split
  · split <;> exact ⟨[], 0, rfl, rfl⟩
  · exact ⟨[], 0, rfl, rfl⟩
theorem asT_eq : ∀ {t : Ty} {v : Value} {x : t.den}, asT t v = some x → v = valT t x
  | .int k, .int k' n, x, h => by
    have h' : (if k' = k then some n else none) = some x := h
    split at h'
    · rename_i e; subst e; cases h'; rfl
    · cases h'
  | .str, .string s, x, h => by cases h; rfl
  | .bool, .bool b, x, h => by cases h; rfl
  | .unit, _, _, h => by cases h
  | .pair _ _, _, _, h => by cases h
  | .sl _, _, _, h => by cases h
/-- the place of a key -/
def pmIx (kt : Ty) {α : Type} (k : kt.den) : List (kt.den × α) → Nat → Option (Nat × α)
  | [], _ => none
  | p :: l, i => bif keyEq kt k p.1 then some (i, p.2) else pmIx kt k l (i + 1)
theorem pmIx_get {kt : Ty} {α : Type} {k : kt.den} : ∀ (l : List (kt.den × α)) (i : Nat), (pmIx kt k l i).map (·.2) = pmGet kt k l
  | [], _ => rfl
  | p :: l, i => by
    unfold pmIx pmGet
    cases keyEq kt k p.1 with
    | true => rfl
    | false => exact pmIx_get l (i + 1)
theorem sameNow_key {kind : TypeDesc} : ∀ {kt : Ty} (_ : kindTy kind = some kt) (a b : kt.den), Instr.sameNow kind (valT kt a) (valT kt b) = some (keyEq kt a b) := by
  intro kt h a b
  cases kind <;> first | (cases h; done) | skip
  all_goals
    cases h
    simp [Instr.sameNow, valT, keyEq]
theorem keyKind_of {kind : TypeDesc} {kt : Ty} (h : kindTy kind = some kt) : keyKind kind = true := by
  cases kind <;> first | (cases h; done) | rfl
theorem findPL {kind : TypeDesc} {kt vt : Ty} (hk : kindTy kind = some kt) (k : kt.den) : ∀ (l : List (kt.den × vt.den)) (es : List MapEntry) (i : Nat), PL kt vt l es → Instr.findNow kind (valT kt k) es i = some ((pmIx kt k l i).map fun p => (p.1, valT vt p.2))
  | [], es, i, hl => by
    rw [PL] at hl
    subst hl
    rfl
  | kv :: l, es, i, ⟨e, es', h1, h2, h3, h4⟩ => by
    subst h1
    unfold Instr.findNow pmIx
    rw [h2, sameNow_key hk]
    cases keyEq kt k kv.1 with
    | true => simp [h3]
    | false => exact findPL hk k l es' (i + 1) h4
theorem beq_bytes (a b : ByteArray) : (a == b) = true ↔ a = b := by
  obtain ⟨a⟩ := a
  obtain ⟨b⟩ := b
  show (a == b) = true ↔ _
  simp
theorem keyEq_eq : ∀ {kt : Ty} {a b : kt.den}, keyEq kt a b = true → a = b
  | .int _, a, b, h => by have h' : ((a : Int) == b) = true := h; exact eq_of_beq h'
  | .str, a, b, h => by
    have h' : ((a : ByteArray) == b) = true := h
    exact (beq_bytes a b).1 h'
  | .bool, a, b, h => by have h' : ((a : Bool) == b) = true := h; exact eq_of_beq h'
  | .unit, _, _, h => by cases h
  | .pair _ _, _, _, h => by cases h
  | .sl _, _, _, h => by cases h
theorem PL_push {kt vt : Ty} {k : kt.den} {x : vt.den} {e0 : MapEntry} (he : e0.key = valT kt k) (hv : e0.val = valT vt x) : ∀ (l : List (kt.den × vt.den)) (es : List MapEntry), PL kt vt l es → pmIx kt k l 0 = none → PL kt vt (pmSet kt k x l) (es ++ [e0]) := by
  have gen : ∀ (l : List (kt.den × vt.den)) (es : List MapEntry) (i : Nat), PL kt vt l es → pmIx kt k l i = none → PL kt vt (pmSet kt k x l) (es ++ [e0]) := by
    intro l
    induction l with
    | nil => intro es i hl _; rw [PL] at hl; subst hl; exact ⟨e0, [], rfl, he, hv, rfl⟩
    | cons p l ih =>
      rintro es i ⟨e, es', rfl, h2, h3, h4⟩ hn
      unfold pmIx at hn
      unfold pmSet
      cases hk : keyEq kt k p.1 with
      | true => rw [hk] at hn; cases hn
      | false => rw [hk] at hn; exact ⟨e, es' ++ [e0], rfl, h2, h3, ih es' (i + 1) h4 hn⟩
  exact fun l es hl hn => gen l es 0 hl hn
theorem PL_mod {kt vt : Ty} {k : kt.den} {x : vt.den} : ∀ (l : List (kt.den × vt.den)) (es : List MapEntry) (i j : Nat) (y : vt.den) (f : MapEntry → MapEntry), PL kt vt l es → pmIx kt k l i = some (j, y) → (∀ e, e.key = valT kt k → (f e).key = valT kt k ∧ (f e).val = valT vt x) → i ≤ j ∧ PL kt vt (pmSet kt k x l) (es.modify (j - i) f) ∧ ∃ e, es[j - i]? = some e ∧ e.key = valT kt k
  | [], _, _, _, _, _, _, hn, _ => by cases hn
  | p :: l, es, i, j, y, f, ⟨e, es', h1, h2, h3, h4⟩, hn, hf => by
    subst h1
    unfold pmIx at hn
    unfold pmSet
    cases hk : keyEq kt k p.1 with
    | true =>
      rw [hk] at hn
      cases hn
      have e1 := keyEq_eq hk
      have hke : e.key = valT kt k := by rw [h2, e1]
      refine ⟨Nat.le_refl _, ?_, ?_⟩
      · rw [Nat.sub_self]
        exact ⟨f e, es', by simp, by rw [(hf e hke).1, e1], (hf e hke).2, h4⟩
      · rw [Nat.sub_self]
        exact ⟨e, rfl, hke⟩
    | false =>
      rw [hk] at hn
      obtain ⟨g1, g2, e', g3, g4⟩ := PL_mod l es' (i + 1) j y f h4 hn hf
      have hji : j - i = (j - (i + 1)) + 1 := by omega
      refine ⟨by omega, ?_, ?_⟩
      · rw [hji]
        exact ⟨e, es'.modify (j - (i + 1)) f, by simp, h2, h3, g2⟩
      · rw [hji]
        exact ⟨e', by simpa using g3, g4⟩
theorem sameBits_self {kind : TypeDesc} {kt : Ty} {v : Value} {k : kt.den} (h : kindTy kind = some kt) (hv : v = valT kt k) : Instr.sameBits 10000 v v = true := by
  cases kind <;> first | (cases h; done) | skip
  all_goals
    cases h
    rw [hv]
    simp [Instr.sameBits, valT, beq_bytes]
theorem find_sound (kind : TypeDesc) (k : Value) : ∀ (l : List (Value × SV)) (es : List MapEntry) (i : Nat) (r : Option SV), KL ρ l es → (sxFind kind k l).res = some r →
    ∃ r', Instr.findNow kind k es i = some r' ∧ (match r with | none => r' = none | some v => ∃ j u, r' = some (j, u) ∧ v.R ρ u)
  | [], es, i, r, hl, h => by
    rw [KL] at hl
    subst hl
    cases h
    exact ⟨none, rfl, rfl⟩
  | kv :: l, es, i, r, ⟨e, es', h1, h2, h3, h4⟩, h => by
    subst h1
    unfold sxFind at h
    split at h
    · rename_i b hb
      unfold Instr.findNow
      rw [h2, hb]
      cases b with
      | true =>
        have h' : some (some kv.2) = some r := h
        cases h'
        exact ⟨_, rfl, i, e.val, rfl, h3⟩
      | false => exact find_sound kind k l es' (i + 1) r h4 h
    · cases h
theorem byteL_R : ∀ {l : List SV} {ns : List Int} {us : List Value}, byteL l = some ns → SV.RL ρ l us → us = ns.map (Value.int .u8) ∧ ns.length = l.length := by
  intro l
  induction l with
  | nil =>
    intro ns us h hr
    cases h
    cases us with
    | nil => exact ⟨rfl, rfl⟩
    | cons _ _ => exact absurd hr (by simp [SV.RL])
  | cons x l ih =>
    intro ns us h hr
    unfold byteL at h
    split at h
    · rename_i e; cases e
    · rename_i n l' e
      cases e
      rw [Option.map_eq_some_iff] at h
      obtain ⟨ns', h1, rfl⟩ := h
      obtain ⟨u, us', rfl, h2, h3⟩ := hr
      obtain ⟨h4, h5⟩ := ih h1 h3
      have h2' : u = .int .u8 n := h2
      exact ⟨by rw [h2', h4]; rfl, by simp [h5]⟩
    · cases h
theorem strOf_foldl (ns : List Int) : ∀ s : ByteArray, ns.foldl (fun r n => r.push (UInt8.ofNat n.toNat)) s = ⟨s.data ++ (ns.map fun n => UInt8.ofNat n.toNat).toArray⟩ := by
  induction ns with
  | nil => intro s; simp
  | cons n ns ih =>
    intro s
    rw [List.foldl_cons, ih]
    apply congrArg ByteArray.mk
    rw [← Array.toList_inj]
    simp [ByteArray.push]
theorem conv_sound {src dst : TypeId} {i off n c : Nat} {u : Value} (hM : View E ρ m w) (hx : (SV.sl i off n c).R ρ u) (h : (sxConv P src dst i off n m).res = some (v, m')) :
    ∃ u', (convert src dst u).run P w = .ok u' w ∧ v.R ρ u' ∧ m' = m := by
  unfold sxConv at h
  split at h
  · rename_i e hs hd
    split at h
    · rename_i l ty g he hm
      split at h
      · rename_i ns hb
        split at h
        · rename_i hlen
          cases h
          obtain ⟨b, hr, rfl⟩ := hx
          rw [nth_eq] at hm
          obtain ⟨o', ho, hO⟩ := hM.get hm hr
          obtain ⟨us, rfl, hl⟩ := hO
          have hc : SV.RL ρ (cut l off n) (cut us off n) := (hl.drop off).take n
          obtain ⟨h1, h2⟩ := byteL_R hb hc
          have h3 := run_loadFrom (P := P) (off := off) ho n 0 [] (by rw [Nat.add_zero, hc.length, ← h2, hlen])
          refine ⟨_, ?_, rfl, rfl⟩
          rw [run_convert_bytes_string w src dst e _ _ _ hs he hd, run_bytesToString w ⟨b, off, none⟩ n c ns (by
            simp only [loadCells] at h3 ⊢
            rw [← h1]
            simpa using h3), strOf_foldl]
          simp [strOf]
        · cases h
      · cases h
    · cases h
  · cases h
/-- a part of a list that stands still -/
theorem HC.part {z : Nat → Nat → Option Value} {t : Ty} {l : List t.den} {base : Option Addr} {c lo hi : Nat} (h : HC z (.sl t) l [.slice base l.length c]) (h1 : lo ≤ hi) (h2 : hi ≤ l.length) :
    HC z (.sl t) ((l.take hi).drop lo) [.slice (if c = lo then base else base.map (·.add (lo * t.size))) (hi - lo) (c - lo)] := by
  obtain ⟨b0, c0, e, hc, hd⟩ := h
  simp only [List.cons.injEq, Value.slice.injEq, and_true, true_and] at e
  obtain ⟨rfl, rfl⟩ := e
  have hlen : ((l.take hi).drop lo).length = hi - lo := by simp; omega
  refine ⟨_, c - lo, by show [Value.slice _ (hi - lo) _] = [Value.slice _ ((l.take hi).drop lo).length _]; rw [hlen], by rw [hlen]; omega, ?_⟩
  rcases hd with ⟨r, off, rfl, hd⟩ | ⟨rfl, rfl⟩
  · by_cases hcl : c = lo
    · right
      refine ⟨?_, by omega⟩
      apply List.eq_nil_of_length_eq_zero
      rw [hlen]; omega
    · left
      refine ⟨r, off + lo * t.size, by rw [if_neg hcl]; simp [addr_add], fun i x hx => ?_⟩
      have hx' : ((l.take hi).drop lo)[i]? = some x := hx
      rw [List.getElem?_drop, List.getElem?_take] at hx'
      split at hx'
      · obtain ⟨ds, h3, h4⟩ := hd (lo + i) x hx'
        refine ⟨ds, ?_, h4⟩
        rw [Nat.add_mul, ← Nat.add_assoc] at h3
        exact h3
      · cases hx'
  · right
    have h3 : hi = 0 := Nat.le_zero.1 h2
    exact ⟨List.eq_nil_of_length_eq_zero (by rw [hlen]; omega), by omega⟩
theorem cut_quiet {t : TypeId} {x : Operand} {lo hi : Option Operand} (hM : View E ρ m w) (he : ∀ x, (ev x).R ρ (a.eval x)) (hop : o.op = .slice t x lo hi none) (h : (sxCut P t (ev x) (lo.map ev) (hi.map ev) m).res = some (v, m')) : Same ρ w ((execOp a.eval o).run P w) v m m' := by
  have gen : ∀ (e : TypeId) (ty : Ty) (l : List ty.den), P.underlying t = some (.slice e) → tySize P e = some ty.size → HC ρ.z (.sl ty) l [a.eval x] → (sxPart ty l (lo.map ev) (hi.map ev) m).res = some (v, m') → Same ρ w ((execOp a.eval o).run P w) v m m' := by
    intro e ty l ht hsz hh h
    have hh0 := hh
    obtain ⟨base, c, e1, hc, _⟩ := hh0
    have e1' : a.eval x = .slice base l.length c := by simpa using e1
    rw [e1'] at hh
    have hat : ∀ l' k mx', (Instr.sliceAt t (.slice base l.length c) l' k mx').run P w = (Instr.slice t (.slice base l.length c) l' k mx').run P w := fun l' k mx' => by
      simp [Instr.sliceAt, run_type ht]
    unfold sxPart at h
    split at h
    · rename_i hl hh2
      cases h
      simp only [Option.map_eq_none_iff] at hl hh2
      subst hl; subst hh2
      have hp := hh.part (Nat.zero_le _) (Nat.le_refl _)
      simp only [List.take_length, List.drop_zero, Nat.zero_mul, Nat.sub_zero] at hp
      refine Same.mk (u := .slice base l.length c) ?_ hh
      simp [execOp, hop, e1', hat, Instr.slice, run_type ht, Instr.sliceBounds, run_size hsz, Addr.add]
    · rename_i kh hv hl hh2
      obtain ⟨h1, h⟩ := R3.need_some h
      cases h
      simp only [Bool.and_eq_true, decide_eq_true_eq] at h1
      simp only [Option.map_eq_none_iff, Option.map_eq_some_iff] at hl hh2
      subst hl
      obtain ⟨xh, rfl, hxh⟩ := hh2
      have h3 := he xh
      rw [hxh] at h3
      have h3' : a.eval xh = .int kh hv := h3
      have hp := hh.part (Nat.zero_le hv.toNat) h1.2
      simp only [List.drop_zero, Nat.zero_mul, Nat.sub_zero] at hp
      refine Same.mk (u := .slice (if c = 0 then base else base.map (fun x : Addr => x.add (0 : Nat))) hv.toNat c) ?_ hp
      have h6 : hv ≤ (c : Int) := by omega
      simp [execOp, hop, e1', h3', hat, Instr.slice, run_type ht, Instr.sliceBounds, Instr.sliceBound, asIntOf, run_size hsz, h1.1, h6]
    · rename_i kb bv hl hh2
      obtain ⟨h1, h⟩ := R3.need_some h
      cases h
      simp only [Bool.and_eq_true, decide_eq_true_eq] at h1
      simp only [Option.map_eq_none_iff, Option.map_eq_some_iff] at hl hh2
      subst hh2
      obtain ⟨xb, rfl, hxb⟩ := hl
      have h3 := he xb
      rw [hxb] at h3
      have h3' : a.eval xb = .int kb bv := h3
      have hp := hh.part h1.2 (Nat.le_refl _)
      simp only [List.take_length] at hp
      refine Same.mk (u := .slice (if c = bv.toNat then base else base.map (·.add (bv.toNat * ty.size))) (l.length - bv.toNat) (c - bv.toNat)) ?_ hp
      have h6 : bv ≤ (l.length : Int) := by omega
      simp [execOp, hop, e1', h3', hat, Instr.slice, run_type ht, Instr.sliceBounds, Instr.sliceBound, asIntOf, run_size hsz, h1.1, h6]
    · rename_i kb bv kh hv hl hh2
      obtain ⟨h1, h⟩ := R3.need_some h
      cases h
      simp only [Bool.and_eq_true, decide_eq_true_eq] at h1
      simp only [Option.map_eq_some_iff] at hl hh2
      obtain ⟨xb, rfl, hxb⟩ := hl
      obtain ⟨xh, rfl, hxh⟩ := hh2
      have h3 := he xb
      rw [hxb] at h3
      have h3' : a.eval xb = .int kb bv := h3
      have h4 := he xh
      rw [hxh] at h4
      have h4' : a.eval xh = .int kh hv := h4
      have hp := hh.part h1.1.2 h1.2
      refine Same.mk (u := .slice (if c = bv.toNat then base else base.map (·.add (bv.toNat * ty.size))) (hv.toNat - bv.toNat) (c - bv.toNat)) ?_ hp
      have h6 : hv ≤ (c : Int) := by omega
      have h7 : bv ≤ hv := by omega
      have h8 : bv ≤ (hv.toNat : Int) := by omega
      have h9 : bv ≤ max hv 0 := by omega
      simp [execOp, hop, e1', h3', h4', hat, Instr.slice, run_type ht, Instr.sliceBounds, Instr.sliceBound, asIntOf, run_size hsz, h1.1.1.1, h1.1.1.2, h6, h7, h8, h9]
    · cases h
  unfold sxCut at h
  split at h
  · rename_i e ht
    split at h
    · rename_i sz ty l hsz hx
      split at h
      · rename_i hszt
        subst hszt
        have h1 := he x
        rw [hx] at h1
        exact gen e ty l ht hsz h1 h
      · cases h
    · rename_i sz i hsz hx
      split at h
      · rename_i ty l hm
        split at h
        · rename_i hszt
          subst hszt
          have h1 := he x
          rw [hx] at h1
          rw [nth_eq] at hm
          exact gen e ty l ht hsz (hM.vec i ty l _ hm h1.1) h
        · cases h
      · cases h
    · cases h
  · cases h
theorem zeroV_int {v : SV} (h : isZeroV v = true) : ∃ k, v = .val (.int k 0) := by
  unfold isZeroV at h
  split at h
  · exact ⟨_, rfl⟩
  · cases h
theorem emp_quiet {t : TypeId} {x mx : Operand} {lo hi : Option Operand} (he : ∀ x, (ev x).R ρ (a.eval x)) (hop : o.op = .slice t x lo hi (some mx)) (h : (sxEmp P t (ev x) (lo.map ev) (hi.map ev) (ev mx) m).res = some (v, m')) : Same ρ w ((execOp a.eval o).run P w) v m m' := by
  unfold sxEmp at h
  split at h
  · rename_i e hv ht hh
    split at h
    · rename_i sz hsz
      split at h
      · rename_i hc
        simp only [Bool.and_eq_true] at hc
        obtain ⟨⟨hl, hz⟩, hm⟩ := hc
        simp only [Option.map_eq_some_iff] at hh
        obtain ⟨xh, rfl, rfl⟩ := hh
        obtain ⟨kh, e1⟩ := zeroV_int hz
        obtain ⟨km, e2⟩ := zeroV_int hm
        have h1 := he xh
        rw [e1] at h1
        have h1' : a.eval xh = .int kh 0 := h1
        have h2 := he mx
        rw [e2] at h2
        have h2' : a.eval mx = .int km 0 := h2
        have key : ∀ (base : Option Addr) (n c : Nat), a.eval x = .slice base n c → (execOp a.eval o).run P w = .ok (.value (.slice base 0 0)) w := fun base n c h3 => by
          cases lo with
          | none => simp [execOp, hop, h3, h1', h2', Instr.sliceAt, run_type ht, Instr.slice, Instr.sliceBounds, Instr.sliceBound, asIntOf, run_size hsz, Addr.add]
          | some xl =>
            have hl' : isZeroV (ev xl) = true := hl
            obtain ⟨kl, e3⟩ := zeroV_int hl'
            have h4 := he xl
            rw [e3] at h4
            have h4' : a.eval xl = .int kl 0 := h4
            simp [execOp, hop, h3, h1', h2', h4', Instr.sliceAt, run_type ht, Instr.slice, Instr.sliceBounds, Instr.sliceBound, asIntOf, run_size hsz, Addr.add]
        have hx := he x
        split at h
        · rename_i ty l hxe
          cases h
          rw [hxe] at hx
          obtain ⟨base, c, h3, _⟩ := hx
          have h3' : a.eval x = .slice base l.length c := by simpa using h3
          exact Same.mk (key base l.length c h3') ⟨base, rfl⟩
        · rename_i hxe
          cases h
          rw [hxe] at hx
          have h3' : a.eval x = .slice none 0 0 := hx
          exact Same.mk (key none 0 0 h3') ⟨none, rfl⟩
        · rename_i hxe
          cases h
          rw [hxe] at hx
          obtain ⟨base, h3'⟩ := hx
          exact Same.mk (key base 0 0 h3') ⟨base, rfl⟩
        · cases h
      · cases h
    · cases h
  · cases h
theorem val_quiet (hn : isNew o.op = false) (hs : isStore o.op = false) (hM : View E ρ m w) (he : ∀ x, (ev x).R ρ (a.eval x)) (h : (sxVal P E.rd o ev m).res = some (v, m')) : Same ρ w ((execOp a.eval o).run P w) v m m' := by
  unfold sxVal at h
  cases hop : o.op <;> simp only [hop] at h
  case move x =>
    cases h
    exact Same.mk (by simp [execOp, hop]) (he x)
  case assign x =>
    cases h
    exact Same.mk (by simp [execOp, hop]) (he x)
  case pick c x y =>
    split at h
    · rename_i t hc
      have hcr := he c
      rw [hc] at hcr
      have hcr' : a.eval c = .bool t := hcr
      have run : (execOp a.eval o).run P w = .ok (.value (if t then a.eval x else a.eval y)) w := by
        simp [execOp, hop, hcr', asBool]
      unfold sxPick at h
      split at h
      · rename_i bx byy hx hy
        cases h
        have h1 := he x
        have h2 := he y
        rw [hx] at h1
        rw [hy] at h2
        have h1' : a.eval x = .bool bx := h1
        have h2' : a.eval y = .bool byy := h2
        rw [h1', h2'] at run
        refine Same.mk run ?_
        cases t <;> rfl
      · cases t
        · cases h
          exact Same.mk run (he y)
        · cases h
          exact Same.mk run (he x)
    · cases h
  case alloc t => rw [hop] at hn; cases hn
  case box t x => rw [hop] at hn; cases hn
  case load t x =>
    obtain ⟨u', h1, h2, rfl⟩ := load_sound (P := P) hM (he x) h
    exact Same.mk (by simp [execOp, hop, h1]) h2
  case store t x y => rw [hop] at hs; cases hs
  case nilCheck x =>
    split at h
    · rename_i i off hx
      cases h
      have h1 := he x
      rw [hx] at h1
      refine Same.mk (u := a.eval x) ?_ h1
      obtain ⟨b, _, h2⟩ := h1
      simp [execOp, hop, h2]
    · rename_i f l k hx
      cases h
      have h1 := he x
      rw [hx] at h1
      refine Same.mk (u := a.eval x) ?_ h1
      obtain ⟨us, vs, h2, _, _⟩ := h1
      simp [execOp, hop, h2]
    · rename_i ty y off hx
      cases h
      have h1 := he x
      rw [hx] at h1
      refine Same.mk (u := a.eval x) ?_ h1
      obtain ⟨r, q, ds, h2, _⟩ := h1
      simp [execOp, hop, h2]
    · rename_i i sz k off hx
      cases h
      have h1 := he x
      rw [hx] at h1
      refine Same.mk (u := a.eval x) ?_ h1
      obtain ⟨r, n, c, _, h2⟩ := h1
      simp [execOp, hop, h2]
    · exact pure_sound he h
  case fieldAddr t x f =>
    split at h
    · rename_i i off hx
      unfold sxFieldAddr at h
      split at h
      · rename_i fs hfs
        split at h
        · rename_i fd hfd
          split at h
          · rename_i sz hsz
            cases h
            have h1 := he x
            rw [hx] at h1
            obtain ⟨b, h2, h3⟩ := h1
            refine Same.mk (u := .pointer (some ⟨b, off + fd.offset, none⟩)) ?_ ⟨b, h2, rfl⟩
            simp [execOp, hop, Instr.fieldAt, run_type hfs, hfd, h3, Instr.sureAddr, fieldPlace, run_size hsz, addr_add]
          · cases h
        · cases h
      · cases h
    · rename_i ty y off hx
      unfold sxFieldAddrD at h
      split at h
      · rename_i fs hfs
        split at h
        · rename_i fd hfd
          split at h
          · rename_i sz hsz
            cases h
            have h1 := he x
            rw [hx] at h1
            obtain ⟨r, q, ds, h2, h3, h4⟩ := h1
            refine Same.mk (u := .pointer (some ⟨r, q + (off + fd.offset), none⟩)) ?_ ⟨r, q, ds, rfl, h3, h4⟩
            simp [execOp, hop, Instr.fieldAt, run_type hfs, hfd, h2, Instr.sureAddr, fieldPlace, run_size hsz, addr_add, Nat.add_assoc]
          · cases h
        · cases h
      · cases h
    · rename_i i sz0 k off hx
      unfold sxFieldAddrW at h
      split at h
      · rename_i fs hfs
        split at h
        · rename_i fd hfd
          split at h
          · rename_i sz hsz
            cases h
            have h1 := he x
            rw [hx] at h1
            obtain ⟨r, n, c, hv, h2⟩ := h1
            refine Same.mk (u := .pointer (some ⟨r, k * sz0 + (off + fd.offset), none⟩)) ?_ ⟨r, n, c, hv, rfl⟩
            simp [execOp, hop, Instr.fieldAt, run_type hfs, hfd, h2, Instr.sureAddr, fieldPlace, run_size hsz, addr_add, Nat.add_assoc]
          · cases h
        · cases h
      · cases h
    · exact pure_sound he h
  case makeFunc fn first caps =>
    split at h
    · exact pure_sound he h
    · cases h
      refine Same.mk (u := .func fn (first.map a.eval) (caps.map a.eval)) ?_ ?_
      · simp [execOp, hop, Instr.makeFunc]
      · exact ⟨first.toList.map a.eval, caps.toList.map a.eval, by simp [← Array.toList_map], RL.map_ops he _, RL.map_ops he _⟩
  case extract x ix =>
    split at h
    · rename_i l hx
      rw [nth_eq] at h
      split at h
      · rename_i v' hv
        cases h
        have h1 := he x
        rw [hx] at h1
        obtain ⟨us, h2, h3⟩ := h1
        obtain ⟨u, h4, h5⟩ := h3.get hv
        exact Same.mk (by simp [execOp, hop, Instr.extract, h2, h4]) h5
      · cases h
    · exact pure_sound he h
  case field t x f =>
    split at h
    · rename_i l hx
      have h1 := he x
      rw [hx] at h1
      obtain ⟨us, h2, h3⟩ := h1
      unfold sxField at h
      split at h
      · rename_i fs hfs
        split at h
        · rename_i fd hfd
          split at h
          · rename_i n hg hs
            cases h
            refine Same.mk (u := .agg (cut us fd.offset n).toArray) ?_ ⟨_, rfl, (h3.drop _).take _⟩
            simp [execOp, hop, Instr.field, run_type hfs, hfd, h2, asAgg, part, run_agg hg, run_size hs, cut, List.extract_eq_take_drop]
          · rename_i hg
            rw [nth_eq] at h
            split at h
            · rename_i v' hv
              cases h
              obtain ⟨u, h4, h5⟩ := h3.get hv
              exact Same.mk (by simp [execOp, hop, Instr.field, run_type hfs, hfd, h2, asAgg, part, run_agg hg, h4]) h5
            · cases h
          · cases h
        · cases h
      · cases h
    · exact pure_sound he h
  case index t x ix =>
    split at h
    · rename_i s k n ht hx hn
      obtain ⟨h1, h⟩ := R3.need_some h
      cases h
      unfold inB at h1
      simp only [Bool.and_eq_true, decide_eq_true_eq] at h1
      have h2 := he x
      have h3 := he ix
      rw [hx] at h2
      rw [hn] at h3
      have h2' : a.eval x = .string s := h2
      have h3' : a.eval ix = .int k n := h3
      refine Same.mk (u := .int .u8 (s.data.getD n.toNat 0).toNat) ?_ rfl
      have h4 : s[n.toNat]? = some (s.data.getD n.toNat 0) := by
        rw [getElem?_pos s n.toNat h1.2]
        have h9 : n.toNat < s.data.size := h1.2
        rw [ByteArray.getElem_eq_getElem_data, Array.getD, dif_pos h9]
        rfl
      simp [execOp, hop, Instr.index, h2', h3', asIntOf, run_type ht, h1.1, h4]
    · exact pure_sound he h
  case indexAddr t x ix =>
    have ixd : ∀ (e : TypeId) (ty : Ty) (l : List ty.den) (n : Int) (k : IntKind), P.underlying t = some (.slice e) → tySize P e = some ty.size → inB n l.length = true → HC ρ.z (.sl ty) l [a.eval x] → ev ix = .val (.int k n) → a.eval ix = .int k n →
        Same ρ w ((execOp a.eval o).run P w) (.dpt ty (l.getD n.toNat ty.dflt) 0) m m := fun e ty l n k ht hsz h1 h2 hn h3' => by
      unfold inB at h1
      simp only [Bool.and_eq_true, decide_eq_true_eq] at h1
      obtain ⟨base, c, h4, h5, h6⟩ := h2
      have h5' : a.eval x = .slice base l.length c := by simpa using h4
      have hl : l[n.toNat]? = some (l.getD n.toNat ty.dflt) := by
        rw [List.getElem?_eq_getElem h1.2, List.getD_eq_getElem?_getD, List.getElem?_eq_getElem h1.2]
        rfl
      rcases h6 with ⟨r, off, rfl, h7⟩ | ⟨h7, _⟩
      · obtain ⟨ds, h8, h9⟩ := h7 n.toNat _ hl
        refine Same.mk (u := .pointer (some ⟨r, off + n.toNat * ty.size, none⟩)) ?_ ⟨r, off + n.toNat * ty.size, ds, rfl, h8, h9⟩
        have h6 : n < (l.length : Int) := by omega
        simp [execOp, hop, Instr.indexAt, h5', h3', asIntOf, run_type ht, h1.1, h6, run_size hsz, addr_add]
      · subst h7
        simp at h1
    split at h
    · rename_i k n hn
      have h3 := he ix
      rw [hn] at h3
      have h3' : a.eval ix = .int k n := h3
      unfold sxIndexAddr at h
      split at h
      · rename_i e i off len cp ht hx
        split at h
        · rename_i sz hsz
          obtain ⟨h1, h⟩ := R3.need_some h
          cases h
          unfold inB at h1
          simp only [Bool.and_eq_true, decide_eq_true_eq] at h1
          have h2 := he x
          rw [hx] at h2
          obtain ⟨b, h4, h5⟩ := h2
          refine Same.mk (u := .pointer (some ⟨b, off + n.toNat * sz, none⟩)) ?_ ⟨b, h4, rfl⟩
          have h6 : n < (len : Int) := by omega
          simp [execOp, hop, Instr.indexAt, h5, h3', asIntOf, run_type ht, h1.1, h6, run_size hsz, addr_add]
        · cases h
      · rename_i e ad len cp ht hx
        split at h
        · rename_i sz hsz
          obtain ⟨h1, h⟩ := R3.need_some h
          cases h
          unfold inB at h1
          simp only [Bool.and_eq_true, decide_eq_true_eq] at h1
          have h2 := he x
          rw [hx] at h2
          have h5 : a.eval x = .slice (some ad) len cp := h2
          refine Same.mk (u := .pointer (some (ad.add (n.toNat * sz)))) ?_ rfl
          have h6 : n < (len : Int) := by omega
          simp [execOp, hop, Instr.indexAt, h5, h3', asIntOf, run_type ht, h1.1, h6, run_size hsz]
        · cases h
      · rename_i e ty l ht hx
        split at h
        · rename_i sz hsz
          split at h
          · rename_i hszt
            subst hszt
            obtain ⟨h1, h⟩ := R3.need_some h
            cases h
            have h2 := he x
            rw [hx] at h2
            exact ixd e ty l n k ht hsz h1 h2 hn h3'
          · cases h
        · cases h
      · rename_i e i ht hx
        split at h
        · rename_i sz ty l hsz hm
          split at h
          · rename_i hszt
            subst hszt
            obtain ⟨h1, h⟩ := R3.need_some h
            cases h
            have h2 := he x
            rw [hx] at h2
            rw [nth_eq] at hm
            exact ixd e ty l n k ht hsz h1 (hM.vec i ty l _ hm h2.1) hn h3'
          · cases h
        · rename_i sz ty l hsz hm
          split at h
          · rename_i hszt
            subst hszt
            obtain ⟨h1, h⟩ := R3.need_some h
            cases h
            have h2 := he x
            rw [hx] at h2
            rw [nth_eq] at hm
            unfold inB at h1
            simp only [Bool.and_eq_true, decide_eq_true_eq] at h1
            obtain ⟨ad, c, h4, h5⟩ := hM.vlen i ty l true _ hm h2.1
            obtain ⟨r, rfl⟩ := h5 (fun e => by rw [e] at h1; simp at h1)
            have h6 : n < (l.length : Int) := by omega
            refine Same.mk (u := .pointer (some ⟨r, n.toNat * ty.size + 0, none⟩)) ?_ ⟨r, l.length, c, by rw [← h4]; exact h2.1, rfl⟩
            simp [execOp, hop, Instr.indexAt, h4, h3', asIntOf, run_type ht, h1.1, h6, run_size hsz, addr_add]
          · cases h
        · cases h
      · rename_i len e i off ht hx
        split at h
        · rename_i sz hsz
          obtain ⟨h1, h⟩ := R3.need_some h
          cases h
          unfold inB at h1
          simp only [Bool.and_eq_true, decide_eq_true_eq] at h1
          have h2 := he x
          rw [hx] at h2
          obtain ⟨b, h4, h5⟩ := h2
          refine Same.mk (u := .pointer (some ⟨b, off + n.toNat * sz, none⟩)) ?_ ⟨b, h4, rfl⟩
          have h6 : n < (len : Int) := by omega
          simp [execOp, hop, Instr.indexAt, h5, h3', asIntOf, run_type ht, h1.1, h6, run_size hsz, addr_add, Instr.sureAddr]
        · cases h
      · cases h
    · cases h
  case binOp op t x y yt =>
    have dv : ∀ rem, (op = if rem then .rem else .quo) → (sxDiv rem (ev x) (ev y) m).res = some (v, m') → Same ρ w ((execOp a.eval o).run P w) v m m' := fun rem hr h => by
      unfold sxDiv at h
      split at h
      · rename_i k n k' n' hx hy
        obtain ⟨h1, h⟩ := R3.need_some h
        cases h
        simp only [Bool.and_eq_true, decide_eq_true_eq, Bool.not_eq_true', decide_eq_false_iff_not] at h1
        obtain ⟨rfl, h1⟩ := h1
        have h2 := he x
        have h3 := he y
        rw [hx] at h2
        rw [hy] at h3
        have h2' : a.eval x = .int k n := h2
        have h3' : a.eval y = .int k n' := h3
        cases rem
        · simp only [Bool.false_eq_true, if_false] at hr
          subst hr
          exact Same.mk (by simp [execOp, hop, h2', h3', eqGuard, binOp, Op.intDiv, h1]) rfl
        · simp only [if_true] at hr
          subst hr
          exact Same.mk (by simp [execOp, hop, h2', h3', eqGuard, binOp, Op.intDiv, h1]) rfl
      · cases h
    have eqq : ∀ neg, (op = if neg then .neq else .eql) → isStruct P t = true → (sxEq P neg t (ev x) (ev y) m).res = some (v, m') → Same ρ w ((execOp a.eval o).run P w) v m m' := fun neg hr ht h => by
      unfold sxEq at h
      split at h
      · rename_i xs ys hx hy
        split at h
        · cases h
        · rename_i hg
          split at h
          · rename_i b hb
            cases h
            have h2 : a.eval x = .agg xs := SV.plain_R _ _ _ hx (he x)
            have h3 : a.eval y = .agg ys := SV.plain_R _ _ _ hy (he y)
            have h4 := eqV_run (P := P) (w := w) 8 10000 t _ _ b (by omega) hb
            have hg' : P.eqGuardType P.depth t = false := by simpa using hg
            cases neg
            · simp only [Bool.false_eq_true, if_false] at hr
              subst hr
              refine Same.mk (u := .bool b) ?_ rfl
              simp [execOp, hop, h2, h3, eqGuard, hg', binOp, Op.equal, Op.maxDepth, h4, program, Sem.run]
            · simp only [if_true] at hr
              subst hr
              refine Same.mk (u := .bool !b) ?_ rfl
              simp [execOp, hop, h2, h3, eqGuard, hg', binOp, Op.equal, Op.maxDepth, h4, program, Sem.run]
          · cases h
      · cases h
    split at h
    · exact dv false rfl h
    · exact dv true rfl h
    · split at h
      · rename_i ht
        exact eqq false rfl ht h
      · exact pure_sound he h
    · split at h
      · rename_i ht
        exact eqq true rfl ht h
      · exact pure_sound he h
    · exact pure_sound he h
  case makeMap t r =>
    cases r with
    | none => rw [hop] at hn; cases hn
    | some x => exact pure_sound he h
  case insert t mp k x => rw [hop] at hs; cases hs
  case mapUpdate t mp k x => rw [hop] at hs; cases hs
  case lookup t x ix ok =>
    unfold sxLookup at h
    split at h
    · rename_i kt et i kv ht hx hk
      have h1 := he x
      have h2 := he ix
      rw [hx] at h1
      rw [hk] at h2
      obtain ⟨r, hr, h3⟩ := h1
      have h2' : a.eval ix = kv := h2
      rw [nth_eq] at h
      split at h
      · rename_i kind l hkt hm
        split at h
        · rename_i hkind
          obtain ⟨rr, h4, h5⟩ := R3.bind_some _ _ _ h
          obtain ⟨_, hb, es, c, rfl, hl⟩ := hM.get hm hr
          obtain ⟨r', h6, h7⟩ := find_sound kind kv l es 0 rr hl h4
          have hck : ∀ e, (Instr.checkKey e 10000 kt kv).run P w = .ok () w := fun e => check_plain hkt hkind e 9999 kv
          have hgo : (getObj r).run P w = .ok (.map es.toArray c) w := by simp [getObj, Sem.run, hb]
          have hfk : (Instr.findKey kt kv es).run P w = .ok r' w := by simp [Instr.findKey, run_type hkt, h6]
          split at h5
          · rename_i v0
            cases h5
            simp only at h7
            obtain ⟨j, u, h8, h9⟩ := h7
            subst h8
            cases ok
            · exact Same.mk (u := u) (by simp [execOp, hop, h3, h2', Instr.lookup, run_type ht, hgo, hck, hfk]) h9
            · exact Same.mk (u := .tuple #[u, .bool true]) (by simp [execOp, hop, h3, h2', Instr.lookup, run_type ht, hgo, hck, hfk]) ⟨[u, .bool true], rfl, u, _, rfl, h9, _, _, rfl, rfl, rfl⟩
          · simp only at h7
            subst h7
            split at h5
            · rename_i z hz
              cases h5
              cases ok
              · exact Same.mk (u := z) (by simp [execOp, hop, h3, h2', Instr.lookup, run_type ht, hgo, hck, hfk, run_zero hz]) rfl
              · exact Same.mk (u := .tuple #[z, .bool false]) (by simp [execOp, hop, h3, h2', Instr.lookup, run_type ht, hgo, hck, hfk, run_zero hz]) ⟨[z, .bool false], rfl, z, _, rfl, rfl, _, _, rfl, rfl, rfl⟩
            · cases h5
        · cases h
      · rename_i kind kt' vt l hkt hm
        unfold sxPmLookup at h
        split at h
        · rename_i kt2 k z hk2 hkv hz
          split at h
          · rename_i e
            subst e
            split at h
            · rename_i z' hz'
              cases h
              obtain ⟨_, hb, es, c, rfl, hl⟩ := hM.get hm hr
              have hck : ∀ e, (Instr.checkKey e 10000 kt kv).run P w = .ok () w := fun e => check_plain hkt (keyKind_of hk2) e 9999 kv
              have hgo : (getObj r).run P w = .ok (.map es.toArray c) w := by simp [getObj, Sem.run, hb]
              have hkv' := asT_eq hkv
              have hzv := asT_eq hz'
              have hfn := findPL hk2 k l es 0 hl
              rw [← hkv'] at hfn
              have hfk : (Instr.findKey kt kv es).run P w = .ok ((pmIx kt2 k l 0).map fun p => (p.1, valT vt p.2)) w := by simp [Instr.findKey, run_type hkt, hfn]
              rw [← pmIx_get l 0]
              cases hix : pmIx kt2 k l 0 with
              | none =>
                rw [hix] at hfk
                try simp only [Option.map_none, Option.map_some, Option.getD_none, Option.getD_some, Option.isSome_none, Option.isSome_some]
                cases ok
                · exact Same.mk (u := z) (by simp [execOp, hop, h3, h2', Instr.lookup, run_type ht, hgo, hck, hfk, run_zero hz]) hzv
                · exact Same.mk (u := .tuple #[z, .bool false]) (by simp [execOp, hop, h3, h2', Instr.lookup, run_type ht, hgo, hck, hfk, run_zero hz]) ⟨[z, .bool false], rfl, z, _, rfl, hzv, _, _, rfl, rfl, rfl⟩
              | some p =>
                rw [hix] at hfk
                try simp only [Option.map_none, Option.map_some, Option.getD_none, Option.getD_some, Option.isSome_none, Option.isSome_some]
                cases ok
                · exact Same.mk (u := valT vt p.2) (by simp [execOp, hop, h3, h2', Instr.lookup, run_type ht, hgo, hck, hfk]) rfl
                · exact Same.mk (u := .tuple #[valT vt p.2, .bool true]) (by simp [execOp, hop, h3, h2', Instr.lookup, run_type ht, hgo, hck, hfk]) ⟨[valT vt p.2, .bool true], rfl, _, _, rfl, rfl, _, _, rfl, rfl, rfl⟩
            · cases h
          · cases h
        · cases h
      · cases h
    · cases h
  case slice t x lo hi mx =>
    split at h
    · rename_i s ht hx
      have h2 := he x
      rw [hx] at h2
      have h2' : a.eval x = .string s := h2
      have hat : ∀ l k mx', (Instr.sliceAt t (.string s) l k mx').run P w = (Instr.slice t (.string s) l k mx').run P w := fun l k mx' => by
        simp [Instr.sliceAt, run_type ht]
      unfold sxSlice at h
      split at h
      · rename_i hl hh
        cases h
        simp only [Option.map_eq_none_iff] at hl hh
        subst hl; subst hh
        exact Same.mk (by simp [execOp, hop, h2', hat, Instr.slice, run_type ht, Instr.sliceBounds]) rfl
      · rename_i kl l hl hh
        obtain ⟨h1, h⟩ := R3.need_some h
        cases h
        simp only [Bool.and_eq_true, decide_eq_true_eq] at h1
        simp only [Option.map_eq_none_iff, Option.map_eq_some_iff] at hl hh
        obtain ⟨xl, rfl, hxl⟩ := hl
        subst hh
        have h3 := he xl
        rw [hxl] at h3
        have h3' : a.eval xl = .int kl l := h3
        have h6 : l ≤ (s.size : Int) := by omega
        exact Same.mk (by simp [execOp, hop, h2', h3', hat, Instr.slice, run_type ht, Instr.sliceBounds, Instr.sliceBound, asIntOf, h1.1, h6]) rfl
      · rename_i kl l hl hh
        obtain ⟨h1, h⟩ := R3.need_some h
        cases h
        simp only [Bool.and_eq_true, decide_eq_true_eq] at h1
        simp only [Option.map_eq_none_iff, Option.map_eq_some_iff] at hl hh
        obtain ⟨xl, rfl, hxl⟩ := hh
        subst hl
        have h3 := he xl
        rw [hxl] at h3
        have h3' : a.eval xl = .int kl l := h3
        have h6 : l ≤ (s.size : Int) := by omega
        exact Same.mk (by simp [execOp, hop, h2', h3', hat, Instr.slice, run_type ht, Instr.sliceBounds, Instr.sliceBound, asIntOf, h1.1, h6]) rfl
      · rename_i kl l kh hh0 hl hh
        obtain ⟨h1, h⟩ := R3.need_some h
        cases h
        simp only [Bool.and_eq_true, decide_eq_true_eq] at h1
        simp only [Option.map_eq_some_iff] at hl hh
        obtain ⟨xl, rfl, hxl⟩ := hl
        obtain ⟨xh, rfl, hxh⟩ := hh
        have h3 := he xl
        rw [hxl] at h3
        have h3' : a.eval xl = .int kl l := h3
        have h4 := he xh
        rw [hxh] at h4
        have h4' : a.eval xh = .int kh hh0 := h4
        have h6 : l ≤ hh0 := by omega
        have h7 : hh0 ≤ (s.size : Int) := by omega
        have h8 : l ≤ (hh0.toNat : Int) := by omega
        have h9 : l ≤ max hh0 0 := by omega
        exact Same.mk (by simp [execOp, hop, h2', h3', h4', hat, Instr.slice, run_type ht, Instr.sliceBounds, Instr.sliceBound, asIntOf, h1.1.1, h6, h7, h8, h9]) rfl
      · cases h
    · rename_i e y ht
      exact cut_quiet hM he hop h
    · rename_i e mx0 y
      exact emp_quiet he hop h
    · cases h
  case buildSlice t n parts => rw [hop] at hn; cases hn
  case makeSlice t n c => rw [hop] at hn; cases hn
  case convert src dst x =>
    split at h
    · rename_i i off n c hx
      have h1 := he x
      rw [hx] at h1
      obtain ⟨u', h2, h3, rfl⟩ := conv_sound (P := P) hM h1 h
      exact Same.mk (by simp [execOp, hop, h2]) h3
    · exact pure_sound he h
  case call c =>
    split at h
    · rename_i x hcal hargs
      cases hl : sxLen P c.argTypes[0]? (ev x) m with
      | none =>
        rw [hl] at h
        exact pure_sound he h
      | some r =>
        rw [hl] at h
        have h1 := he x
        have ha : c.args = #[x] := by
          rw [← Array.toList_inj]
          simpa using hargs
        unfold sxLen at hl
        split at hl
        · rename_i e i off n cp ht hx
          cases hl
          cases h
          obtain ⟨t0, ht0, ht1⟩ := Option.bind_eq_some_iff.1 ht
          rw [hx] at h1
          obtain ⟨b, _, h2⟩ := h1
          refine Same.mk (u := .int .i64 n) ?_ rfl
          simp [execOp, hop, resolve, hcal, ha, invoke, builtin, Builtin.len_, h2, goInt, ht0, run_type ht1]
        · rename_i e sa n cp ht hx
          cases hl
          cases h
          obtain ⟨t0, ht0, ht1⟩ := Option.bind_eq_some_iff.1 ht
          rw [hx] at h1
          have h2 : a.eval x = .slice sa n cp := h1
          refine Same.mk (u := .int .i64 n) ?_ rfl
          simp [execOp, hop, resolve, hcal, ha, invoke, builtin, Builtin.len_, h2, goInt, ht0, run_type ht1]
        · rename_i e ty l ht hx
          cases hl
          cases h
          obtain ⟨t0, ht0, ht1⟩ := Option.bind_eq_some_iff.1 ht
          rw [hx] at h1
          obtain ⟨base, cp, h2, _⟩ := h1
          have h2 : a.eval x = .slice base l.length cp := by simpa using h2
          refine Same.mk (u := .int .i64 l.length) ?_ rfl
          simp [execOp, hop, resolve, hcal, ha, invoke, builtin, Builtin.len_, h2, goInt, ht0, run_type ht1]
        · rename_i e i ht hx
          split at hl
          · rename_i ty l fl hm
            cases hl
            cases h
            obtain ⟨t0, ht0, ht1⟩ := Option.bind_eq_some_iff.1 ht
            rw [hx] at h1
            rw [nth_eq] at hm
            obtain ⟨base, cp, h2, _⟩ := hM.vlen i ty l fl _ hm h1.1
            refine Same.mk (u := .int .i64 l.length) ?_ rfl
            simp [execOp, hop, resolve, hcal, ha, invoke, builtin, Builtin.len_, h2, goInt, ht0, run_type ht1]
          · cases hl
            cases h
        · rename_i e ht hx
          cases hl
          cases h
          obtain ⟨t0, ht0, ht1⟩ := Option.bind_eq_some_iff.1 ht
          rw [hx] at h1
          obtain ⟨base, h2⟩ := h1
          refine Same.mk (u := .int .i64 0) ?_ rfl
          simp [execOp, hop, resolve, hcal, ha, invoke, builtin, Builtin.len_, h2, goInt, ht0, run_type ht1]
        · cases hl
    · rename_i x y hcal hargs
      rw [hop] at hn
      simp [isNew, isAppend, hcal] at hn
    · cases h
    · exact pure_sound he h
    · cases h
  all_goals exact pure_sound he h

theorem fold_lay (v : List Value) : ∀ (off : Nat) (cells : List Value), off + v.length ≤ cells.length →
    (v.zipIdx.foldl (fun (cs : Array Value) (x : Value × Nat) => cs.setIfInBounds (off + x.2) x.1) cells.toArray) = (lay cells off v).toArray := by
  have gen : ∀ (v : List Value) (off k : Nat) (cells : List Value), off + k + v.length ≤ cells.length →
      ((v.zipIdx k).foldl (fun (cs : Array Value) (x : Value × Nat) => cs.setIfInBounds (off + x.2) x.1) cells.toArray) = (lay cells (off + k) v).toArray := by
    intro v
    induction v with
    | nil => intro off k cells _; simp [lay]
    | cons x v ih =>
      intro off k cells h
      simp only [List.length_cons] at h
      rw [List.zipIdx_cons, List.foldl_cons, List.setIfInBounds_toArray, ih off (k + 1) _ (by simp; omega), lay_set cells (off + k) x v (by omega), show off + (k + 1) = off + k + 1 by omega]
  intro off cells h
  exact gen v off 0 cells (by omega)
theorem fill_all (sz : Nat) : ∀ (vs : List Value) (k : Nat) (pre rest : List Value), (∀ v ∈ vs, v.cells.size = sz) → rest.length = vs.length * sz → pre.length = k * sz →
    Instr.fill (fun i => some (i * sz, sz)) (pre ++ rest).toArray ((List.range' k vs.length).zip vs) = some (pre ++ vs.flatMap fun v => v.cells.toList).toArray
  | [], k, pre, rest, _, hr, _ => by
    have : rest = [] := List.eq_nil_of_length_eq_zero (by simpa using hr)
    subst this
    simp [Instr.fill]
  | v :: vs, k, pre, rest, hv, hr, hp => by
    have hsz := hv v (by simp)
    have hvl : v.cells.toList.length = sz := by simpa using hsz
    have hrl : rest.length = sz + vs.length * sz := by rw [hr, List.length_cons, Nat.add_mul]; omega
    rw [List.length_cons, List.range'_succ, List.zip_cons_cons]
    unfold Instr.fill
    simp only
    rw [if_neg (by simp [hsz, hp]; omega)]
    have e1 : (v.cells.zipIdx.foldl (fun (cs : Array Value) (x : Value × Nat) => cs.setIfInBounds (k * sz + x.2) x.1) (pre ++ rest).toArray) = (lay (pre ++ rest) (k * sz) v.cells.toList).toArray := by
      rw [← fold_lay v.cells.toList (k * sz) (pre ++ rest) (by rw [List.length_append, hp]; omega), ← Array.foldl_toList, Array.toList_zipIdx]
    have e2 : lay (pre ++ rest) (k * sz) v.cells.toList = (pre ++ v.cells.toList) ++ rest.drop sz := by
      unfold lay
      rw [← hp, List.take_left, List.drop_append, hvl]
      simp
    have e3 := fill_all sz vs (k + 1) (pre ++ v.cells.toList) (rest.drop sz) (fun x hx => hv x (by simp [hx])) (by simp; omega) (by rw [List.length_append, hp, hvl, Nat.add_mul]; omega)
    show Instr.fill (fun i => some (i * sz, sz)) (v.cells.zipIdx.foldl (fun (cs : Array Value) (x : Value × Nat) => cs.setIfInBounds (k * sz + x.2) x.1) (pre ++ rest).toArray) _ = _
    rw [e1, e2, e3]
    simp
theorem allSome_R (he : ∀ x, (ev x).R ρ (a.eval x)) : ∀ (l : List Operand) (css : List (List SV)), allSome (l.map fun x => (ev x).cells) = some css → SV.RL ρ css.flatten ((l.map a.eval).flatMap fun v => v.cells.toList) ∧ css.length = l.length ∧
    ∀ sz, css.all (fun c => c.length == sz) = true → ∀ v ∈ l.map a.eval, v.cells.size = sz
  | [], css, h => by
    simp only [List.map_nil, allSome, Option.some.injEq] at h
    subst h
    exact ⟨rfl, rfl, fun _ _ v hv => by simp at hv⟩
  | x :: l, css, h => by
    simp only [List.map_cons] at h
    cases hx : (ev x).cells with
    | none => rw [hx] at h; simp [allSome] at h
    | some c =>
      rw [hx] at h
      simp only [allSome, Option.map_eq_some_iff] at h
      obtain ⟨css', h1, rfl⟩ := h
      obtain ⟨h2, h3, h4⟩ := allSome_R he l css' h1
      have h5 := atom_R (he x) hx
      refine ⟨by simpa using h5.append h2, by simp [h3], fun sz hall v hv => ?_⟩
      simp only [List.all_cons, Bool.and_eq_true, beq_iff_eq] at hall
      simp only [List.map_cons, List.mem_cons] at hv
      rcases hv with rfl | hv
      · have := h5.length
        simp at this
        omega
      · exact h4 sz hall.2 v hv
theorem build_run {t : TypeId} {n : Nat} {parts : Array (Nat × Operand)} (he : ∀ x, (ev x).R ρ (a.eval x)) (h : (sxBuildSlice P t n (parts.toList.map (·.1)) (allSome (parts.toList.map fun p => (ev p.2).cells)) m).res = some (v, m')) :
    ∃ us e css, v = .sl m.length 0 n n ∧ m' = m ++ [.cells css e true] ∧ SV.RL ρ css us ∧ (Instr.buildSlice t n (parts.map fun (i, x) => (i, a.eval x))).run P w = .ok (.slice (some ⟨w.heap.size, 0, none⟩) n n) { w with heap := w.heap.push (.cells us.toArray e) } := by
  unfold sxBuildSlice at h
  split at h
  · rename_i e css ht hcss
    split at h
    · rename_i sz hsz
      split at h
      · rename_i hc
        simp only [Bool.and_eq_true, decide_eq_true_eq] at hc
        obtain ⟨⟨⟨⟨⟨hall, hix⟩, hlen⟩, hbig⟩, hpos⟩, hz⟩ := hc
        cases h
        obtain ⟨z, hz⟩ := Option.isSome_iff_exists.1 hz
        have hparts : parts.toList.map (fun p => (ev p.2).cells) = (parts.toList.map (·.2)).map fun x => (ev x).cells := by simp [Function.comp_def]
        rw [hparts] at hcss
        obtain ⟨h1, h2, h3⟩ := allSome_R he _ _ hcss
        have hix' : parts.toList.map (·.1) = List.range n := by simpa using hix
        have hlen' : css.length = n := by simpa using hlen
        have hpl : (parts.toList.map (·.2)).length = n := by rw [← h2]; exact hlen'
        refine ⟨_, e, _, rfl, rfl, h1, ?_⟩
        simp only [Bool.or_eq_true, decide_eq_true_eq, beq_iff_eq] at hpos
        rcases hpos with hpos | rfl
        case inr =>
          have hp0 : parts.toList = [] := by
            have : parts.toList.map (·.2) = [] := List.eq_nil_of_length_eq_zero hpl
            simpa using this
          have hp1 : parts = #[] := by rw [← Array.toList_inj]; exact hp0
          subst hp1
          simp [Instr.buildSlice, run_type ht, run_size hsz, Instr.fill, newRow, newObj, Sem.run, show Array.range 0 = #[] from rfl]
        have hz2 : ¬ n * sz = 0 := by omega
        have hbig' : ¬ n * sz > 2 ^ 24 := by omega
        have hlist : (parts.map fun (i, x) => (i, a.eval x)).toList = (List.range' 0 ((parts.toList.map (·.2)).map a.eval).length).zip ((parts.toList.map (·.2)).map a.eval) := by
          rw [Array.toList_map, List.length_map, hpl, ← List.range_eq_range', ← hix']
          generalize parts.toList = ps
          induction ps with
          | nil => rfl
          | cons p ps ih => simp [ih]
        have hfill := fill_all sz ((parts.toList.map (·.2)).map a.eval) 0 [] ((Array.range (n * sz)).map (fun i => z.cells[i % z.cells.size]!)).toList (h3 sz hall) (by simp [← hpl]) (by simp)
        rw [← hlist] at hfill
        simp only [List.nil_append, Array.toArray_toList] at hfill
        simp only [Instr.buildSlice, Sem.run_bind, run_type ht, Result.andThen_ok, run_size hsz, hbig', if_false, hz2, run_zero hz, Sem.run_pure, hfill, newRow, newObj, Sem.run]
      · cases h
    · cases h
  · cases h
theorem val_sound (hM : Mem E ρ m w) (he : ∀ x, (ev x).R ρ (a.eval x)) (h : (sxVal P E.rd o ev m).res = some (v, m')) : Does E ρ ((execOp a.eval o).run P w) v m' := by
  by_cases hn : isNew o.op = false
  · by_cases hs : isStore o.op = false
    · exact (val_quiet hn hs hM.view he h).does hM
    · have ins : ∀ t mp k x, (execOp a.eval o = do Instr.mapUpdate t (a.eval mp) (a.eval k) (a.eval x); pure .skip) →
          (sxInsert P t (ev mp) (ev k) (ev x) m).res = some (v, m') → Does E ρ ((execOp a.eval o).run P w) v m' := by
        intro t mp k x hex h
        unfold sxInsert at h
        split at h
        · rename_i kt et i kv ht hmp hk
          have h1 := he mp
          have h2 := he k
          rw [hmp] at h1
          rw [hk] at h2
          obtain ⟨r, hr, h3⟩ := h1
          have h2' : a.eval k = kv := h2
          rw [nth_eq] at h
          split at h
          · rename_i kind l hkt hm
            split at h
            · rename_i hkind
              obtain ⟨rr, h4, h5⟩ := R3.bind_some _ _ _ h
              obtain ⟨_, hb, es, c, rfl, hl⟩ := hM.get hm hr
              obtain ⟨r', h6, h7⟩ := find_sound kind kv l es 0 rr hl h4
              cases rr with
              | some v0 => cases h5
              | none =>
                cases h5
                simp only at h7
                subst h7
                have hck : (Instr.checkKey false 10000 kt kv).run P w = .ok () w := check_plain hkt hkind false 9999 kv
                have hgo : (getObj r).run P w = .ok (.map es.toArray c) w := by simp [getObj, Sem.run, hb]
                have hfk : (Instr.findKey kt kv es).run P w = .ok none w := by simp [Instr.findKey, run_type hkt, h6]
                have hrlt := hM.lt i r hr
                have hso : (setObj r (.map (es ++ [({ key := kv, val := a.eval x, born := c } : MapEntry)]).toArray (c + 1))).run P w = .ok () { w with heap := w.heap.setIfInBounds r (.map (es ++ [({ key := kv, val := a.eval x, born := c } : MapEntry)]).toArray (c + 1)) } := by
                  simp [setObj, Sem.run, hb]
                have hKL : KL ρ (l ++ [(kv, ev x)]) (es ++ [{ key := kv, val := a.eval x, born := c }]) := by
                  have gen : ∀ (l : List (Value × SV)) (es : List MapEntry), KL ρ l es → KL ρ (l ++ [(kv, ev x)]) (es ++ [{ key := kv, val := a.eval x, born := c }]) := by
                    intro l
                    induction l with
                    | nil => intro es hl; rw [KL] at hl; subst hl; exact ⟨_, [], rfl, rfl, he x, rfl⟩
                    | cons y l ih => rintro es ⟨e, es', rfl, q1, q2, q3⟩; exact ⟨e, _, rfl, q1, q2, ih es' q3⟩
                  exact gen l es hl
                refine ⟨.skip, _, ρ, undef, ?_, .inr ⟨rfl, rfl⟩, rfl, hM.write (b1 := .mp (l ++ [(kv, ev x)])) (o1 := .map (es ++ [({ key := kv, val := a.eval x, born := c } : MapEntry)]).toArray (c + 1)) hm rfl hr ⟨_, _, rfl, hKL⟩ rfl, Le.refl _⟩
                rw [hex, h3, h2']
                simp [Instr.mapUpdate, run_type ht, hgo, hck, hfk, hso]
            · cases h
          · rename_i kind kt' vt l hkt hm
            unfold sxPmInsert at h
            split at h
            · rename_i kt2 k vv hk2 hkv hv0
              split at h
              · rename_i e
                subst e
                split at h
                · rename_i y hy
                  cases h
                  obtain ⟨_, hb, es, c, rfl, hl⟩ := hM.get hm hr
                  have hck : (Instr.checkKey false 10000 kt kv).run P w = .ok () w := check_plain hkt (keyKind_of hk2) false 9999 kv
                  have hgo : (getObj r).run P w = .ok (.map es.toArray c) w := by simp [getObj, Sem.run, hb]
                  have hkv' := asT_eq hkv
                  have hfn := findPL hk2 k l es 0 hl
                  rw [← hkv'] at hfn
                  have hx := he x
                  rw [hv0] at hx
                  have hx' : a.eval x = vv := hx
                  have hvv := asT_eq hy
                  have hso : ∀ o, (setObj r o).run P w = .ok () { w with heap := w.heap.setIfInBounds r o } := fun o => by simp [setObj, Sem.run, hb]
                  cases hix : pmIx kt2 k l 0 with
                  | none =>
                    rw [hix] at hfn
                    have hfk : (Instr.findKey kt kv es).run P w = .ok none w := by simp [Instr.findKey, run_type hkt, hfn]
                    refine ⟨.skip, _, ρ, undef, ?_, .inr ⟨rfl, rfl⟩, rfl, hM.write (b1 := .pm kt2 vt (pmSet kt2 k y l)) (o1 := .map (es ++ [({ key := kv, val := a.eval x, born := c } : MapEntry)]).toArray (c + 1)) hm rfl hr ⟨_, _, rfl, PL_push hkv' (by show a.eval x = _; rw [hx', hvv]) l es hl hix⟩ rfl, Le.refl _⟩
                    rw [hex, h3, h2']
                    simp [Instr.mapUpdate, run_type ht, hgo, hck, hfk, hso]
                  | some p =>
                    obtain ⟨j, y0⟩ := p
                    rw [hix] at hfn
                    have hfk : (Instr.findKey kt kv es).run P w = .ok (some (j, valT vt y0)) w := by simp [Instr.findKey, run_type hkt, hfn]
                    obtain ⟨_, g2, e, g3, g4⟩ := PL_mod (x := y) l es 0 j y0 (fun e => { e with key := kv, val := a.eval x }) hl hix (fun e _ => ⟨hkv', by show a.eval x = _; rw [hx', hvv]⟩)
                    rw [Nat.sub_zero] at g2 g3
                    have hst : (Instr.keyThatStays kv kv).run P w = .ok kv w := by
                      unfold Instr.keyThatStays
                      rw [if_pos (sameBits_self hk2 hkv')]
                      rfl
                    refine ⟨.skip, _, ρ, undef, ?_, .inr ⟨rfl, rfl⟩, rfl, hM.write (b1 := .pm kt2 vt (pmSet kt2 k y l)) (o1 := .map (es.modify j fun e => { e with key := kv, val := a.eval x }).toArray c) hm rfl hr ⟨_, _, rfl, g2⟩ rfl, Le.refl _⟩
                    rw [hex, h3, h2']
                    have hgd : ((es.toArray[j]?).map (·.key)).getD kv = kv := by
                      rw [List.getElem?_toArray, g3]
                      simp [g4, hkv']
                    simp only [Instr.mapUpdate, Sem.run_bind, run_type ht, Result.andThen_ok, hgo, hck, hfk, hgd, hst, hso, Sem.run_pure]
                    simp [hst, hso]
                · cases h
              · cases h
            · cases h
          · cases h
        · cases h
      unfold sxVal at h
      cases hop : o.op <;> simp only [hop, isStore, not_true_eq_false] at hs <;> simp only [hop] at h
      case store t x y =>
        obtain ⟨w', h1, rfl, h3⟩ := store_sound (P := P) hM (he x) (he y) h
        exact ⟨_, w', ρ, undef, by simp [execOp, hop, h1], .inr ⟨rfl, rfl⟩, rfl, h3, Le.refl _⟩
      case insert t mp k x => exact ins t mp k x (by simp [execOp, hop]) h
      case mapUpdate t mp k x => exact ins t mp k x (by simp [execOp, hop]) h
  · unfold sxVal at h
    cases hop : o.op <;> simp only [hop, isNew, not_true_eq_false] at hn <;> simp only [hop] at h
    case alloc t =>
      split at h
      · rename_i z hz
        cases h
        refine ⟨_, _, ext ρ m.length w.heap.size, .pointer (some ⟨w.heap.size, 0, none⟩), ?_, .inl rfl, ?_, hM.make ⟨_, rfl, SV.RL.vals z.cells.toList⟩, ext_le (hM.fresh (Nat.le_refl _))⟩
        · simp only [execOp, hop, Instr.alloc, Sem.run_bind, run_zero hz, Result.andThen_ok, newVar, newRow, newObj, Sem.run, Sem.run_pure]
        · exact ⟨w.heap.size, ext_at _ _ _, rfl⟩
      · cases h
    case box t x =>
      split at h
      · rename_i l hl
        cases h
        refine ⟨_, _, ext ρ m.length w.heap.size, .pointer (some ⟨w.heap.size, 0, none⟩), ?_, .inl rfl, ?_, hM.make ⟨_, rfl, atom_R (he x) hl⟩, ext_le (hM.fresh (Nat.le_refl _))⟩
        · simp only [execOp, hop, Instr.box, Sem.run_bind, Result.andThen_ok, newVar, newRow, newObj, Sem.run, Sem.run_pure]
        · exact ⟨w.heap.size, ext_at _ _ _, rfl⟩
      · cases h
  
    case makeMap t r =>
      cases r with
      | some x => simp at hn
      | none =>
        cases h
        refine ⟨_, _, ext ρ m.length w.heap.size, .map (some w.heap.size), ?_, .inl rfl, ?_, hM.make (b1 := newMap P t) newMap_O newMap_flat, ext_le (hM.fresh (Nat.le_refl _))⟩
        · simp [execOp, hop, Instr.makeMap, newObj, Sem.run]
        · exact ⟨w.heap.size, ext_at _ _ _, rfl⟩
    case buildSlice t n parts =>
      obtain ⟨us, e, css, rfl, rfl, h1, h2⟩ := build_run (w := w) he h
      refine ⟨_, _, ext ρ m.length w.heap.size, .slice (some ⟨w.heap.size, 0, none⟩) n n, ?_, .inl rfl, ⟨w.heap.size, ext_at _ _ _, rfl⟩, hM.make (b1 := .cells css e true) ⟨us, rfl, h1⟩, ext_le (hM.fresh (Nat.le_refl _))⟩
      simp only [execOp, hop, Sem.run_bind, h2, Result.andThen_ok, Sem.run_pure]
    case makeSlice t n c =>
      unfold sxMakeSlice at h
      split at h
      · rename_i e kn nn kc cc ht hn1 hc1
        split at h
        · rename_i ty sz by_ hty hsz hby
          split at h
          · rename_i hcond
            obtain ⟨hszt, hbound, hzf⟩ := hcond
            obtain ⟨h1, h⟩ := R3.need_some h
            cases h
            simp only [Bool.and_eq_true, decide_eq_true_eq] at h1
            obtain ⟨⟨h0, hnc⟩, hle⟩ := h1
            subst hnc
            have e1 := he n
            rw [hn1] at e1
            have e1' : a.eval n = .int kn nn := e1
            have e2 := he c
            rw [hc1] at e2
            have e2' : a.eval c = .int kc nn := e2
            unfold zeroFlat at hzf
            split at hzf
            · rename_i z hz
              split at hzf
              · rename_i y hp
                have hzT : zeroOfT P e ty = y := by
                  unfold zeroOfT
                  rw [hz]
                  simp only
                  rw [hp]
                obtain ⟨i, hi, hi1, hi2, hi3⟩ := info_of hsz hby hz
                have hR : SV.RL ρ (z.cells.toList.map .val) z.cells.toList := SV.RL.vals _
                have hM0 : Mem E ρ (List.replicate m.length Blk.dead) w := hM.weaken (by simp) fun x => by
                  by_cases hx : x < m.length
                  · right; rw [List.getElem?_replicate, if_pos hx]
                  · left; rw [List.getElem?_eq_none (by simpa using hx), List.getElem?_eq_none (by omega)]
                have hp' : parseT ty (List.replicate m.length Blk.dead) (z.cells.toList.map .val) = some (y, []) := by
                  rw [parseT_agree (m := List.replicate m.length Blk.dead) (m' := []) (fun i => by
                    unfold lookB
                    rw [nth_eq, nth_eq, List.getElem?_replicate]
                    by_cases hx : i < m.length
                    · rw [if_pos hx]; rfl
                    · rw [if_neg hx]; rfl)]
                  exact hp
                obtain ⟨ds, us', g1, g2, g3⟩ := parseT_sound hM0 ty _ _ _ _ hp' hR
                rw [SV.RL] at g3
                subst g3
                rw [List.append_nil] at g1
                have hds : ds.length = ty.size := HC.length _ _ _ g2
                have hzs : z.cells.size = ty.size := by rw [← hds, ← g1]; simp
                have hnn : nn.toNat ≤ 1048576 := by omega
                have hbytes : (i.bytes : Int) * nn ≤ 281474976710656 := by
                  have h9 : i.bytes * nn.toNat ≤ 1048576 * 1048576 := Nat.mul_le_mul (by omega) hnn
                  have h10 : ((i.bytes * nn.toNat : Nat) : Int) ≤ 281474976710656 := by omega
                  rw [Int.natCast_mul, show ((nn.toNat : Nat) : Int) = nn by omega] at h10
                  exact h10
                have hr := run_make (P := P) w t e i z ht hi hi3 kn kc nn nn h0 (Int.le_refl _) hbytes (by omega)
                have hsi : i.size = ty.size := by omega
                have huni : ∀ d ∈ List.replicate nn.toNat ds, d.length = ty.size := fun d hd => by rw [(List.mem_replicate.1 hd).2]; exact hds
                have hpos : 0 < ty.size := by omega
                obtain ⟨ρ2, _, le2, hv, hM3⟩ := hM.vecStep (L := List.replicate nn.toNat y) (w' := w.alloc (.cells (madeCells z.cells (nn.toNat * i.size)) e)) (g := w.heap.size) (c := nn.toNat) (cs := (List.replicate nn.toNat ds).flatten) true rfl rfl rfl (by show w.heap.size ≤ (w.heap.push _).size; simp) (fun k hk _ => heap_alloc_old w _ k hk) (heap_alloc_new w _) (by rw [size_madeCells, hsi]) (by simp) (.inl (Nat.le_refl _)) ⟨List.replicate nn.toNat ds, rfl, by simp, fun i x hx => by
                  rw [List.getElem?_replicate] at hx ⊢
                  split at hx
                  · rename_i hi; cases hx; exact ⟨ds, by rw [if_pos hi], g2⟩
                  · cases hx⟩ (fun j y' hy => by
                  rw [flatten_div hpos _ huni, Option.bind_eq_some_iff] at hy
                  obtain ⟨d, hd1, hd2⟩ := hy
                  rw [List.getElem?_replicate] at hd1
                  split at hd1
                  · rename_i hj
                    cases hd1
                    have hjlt : j < nn.toNat * i.size := by
                      rw [hsi]
                      exact (Nat.div_lt_iff_lt_mul hpos).1 hj
                    have hmod := Nat.mod_lt j hpos
                    unfold madeCells
                    rw [Array.getElem?_map, Array.getElem?_range]
                    rw [if_pos hjlt]
                    simp only [Option.map_some]
                    rw [hzs, getElem!_pos z.cells (j % ty.size) (by omega)]
                    rw [← hd2]
                    subst g1
                    rw [Array.getElem?_toList, Array.getElem?_eq_getElem]
                  · cases hd1)
                rw [List.length_replicate] at hv
                rw [hzT]
                refine ⟨_, _, ρ2, _, ?_, .inl rfl, hv, hM3, le2⟩
                simp [execOp, hop, e1', e2', hr]
              · cases hzf
            · cases hzf
          · cases h
        · cases h
      · cases h
    case call c =>
      have hca : c.callee = .builtin .append := by
        simp only [isAppend] at hn
        split at hn
        · assumption
        · simp at hn
      rw [hca] at h
      split at h
      · rename_i h1 h2; cases h1
      · rename_i x y hcal hargs
        have ha : c.args = #[x, y] := by
          rw [← Array.toList_inj]
          simpa using hargs
        obtain ⟨u', w', ρ', h1, h2, h3, h4⟩ := append_sound (P := P) hM (he x) (he y) h o.type
        refine ⟨_, w', ρ', u', ?_, .inl rfl, h2, h3, h4⟩
        simp [execOp, hop, resolve, hca, ha, invoke, builtin, h1]
      · cases h
      · rename_i h1 _ h2; exact absurd h2 (by simp_all)
      · cases h

end
end Go.SX

/-
  A symbolic executor: regions, code, functions.
-/
namespace Go.SX
set_option linter.unusedSimpArgs false
set_option linter.unusedVariables false
open Go.RowKit

/-- a deferred call -/
structure SD where
  f : FuncId
  caps : List SV
  args : List SV
structure St where
  t : List SV
  m : List Blk
  d : List SD
inductive OutE where
  | ret (v : SV)
  | pan (v : SV)
structure Out where
  e : OutE
  m : List Blk
inductive Ex where
  | normal
  | exit (id : Nat)
  | ret
  | panic (v : SV)

def St.put (s : St) (dst : Option Tmp) (v : SV) : St :=
  match dst with
  | some d => { s with t := s.t.set d v }
  | none => s
/-- the head of a value; to have a state's lists at hand before going on: the kernel's sums are lazy -/
def vf {γ : Type} (v : Value) (k : Value → γ) : γ :=
  match v with
  | .int a n => k (.int a n)
  | .string s => k (.string s)
  | .bool b => k (.bool b)
  | .agg l => k (.agg l)
  | v => k v
theorem vf_eq {γ : Type} (v : Value) (k : Value → γ) : vf v k = k v := by cases v <;> rfl
def SV.f {γ : Type} (x : SV) (k : SV → γ) : γ :=
  match x with
  | .val v => vf v fun v => k (.val v)
  | .any => k .any
  | .ptr i o => k (.ptr i o)
  | .sl i o n c => k (.sl i o n c)
  | .mp i => k (.mp i)
  | .agg l => k (.agg l)
  | .tup l => k (.tup l)
  | .clo f a b => k (.clo f a b)
  | .dsl t l => k (.dsl t l)
  | .dpt t y o => k (.dpt t y o)
  | .vec i => k (.vec i)
  | .wpt i s j o => k (.wpt i s j o)
  | .emp => k .emp
theorem SV.f_eq {γ : Type} (x : SV) (k : SV → γ) : x.f k = k x := by
  cases x with
  | val v => exact vf_eq v (fun v => k (.val v))
  | _ => rfl
def lf {α γ : Type} (f : α → (α → γ) → γ) : List α → (List α → γ) → γ
  | [], k => k []
  | x :: l, k => f x fun x' => lf f l fun l' => k (x' :: l')
theorem lf_eq {α γ : Type} (f : α → (α → γ) → γ) (hf : ∀ x k, f x k = k x) : ∀ (l : List α) (k : List α → γ), lf f l k = k l
  | [], _ => rfl
  | x :: l, k => by
    show f x (fun x' => lf f l fun l' => k (x' :: l')) = _
    rw [hf, lf_eq f hf l]
def Blk.f {γ : Type} (x : Blk) (k : Blk → γ) : γ :=
  match x with
  | .dead => k .dead
  | .cells l t b => lf SV.f l fun l' => k (.cells l' t b)
  | .mp l => k (.mp l)
  | .vec t l b => k (.vec t l b)
  | .pm kt vt l => k (.pm kt vt l)
theorem Blk.f_eq {γ : Type} (x : Blk) (k : Blk → γ) : x.f k = k x := by
  cases x with
  | cells l t b => show lf SV.f l (fun l' => k (.cells l' t b)) = _; rw [lf_eq _ SV.f_eq]
  | _ => rfl
def St.f {γ : Type} (s : St) (k : St → γ) : γ := lf SV.f s.t fun t => lf Blk.f s.m fun m => lf (fun x k => k x) s.d fun d => k { t := t, m := m, d := d }
theorem St.f_eq {γ : Type} (s : St) (k : St → γ) : s.f k = k s := by
  unfold St.f
  rw [lf_eq _ SV.f_eq, lf_eq _ Blk.f_eq, lf_eq _ (fun _ _ => rfl)]
def evalS (s : St) : Operand → SV
  | .tmp t => (nth s.t t).getD (.val undef)
  | .const v => .val v
  | .global g => .val (.pointer (some ⟨g, 0, none⟩))
  | .func f => .val (.func (.func f) #[] #[])

/-- the call of a Go function -/
def goCallee (x : SV) : Option (FuncId × List SV × List SV) :=
  match x with
  | .val (.func (.func f) first caps) => some (f, first.toList.map .val, caps.toList.map .val)
  | .clo (.func f) first caps => some (f, first, caps)
  | _ => none
def goCall (o : Oper) (ev : Operand → SV) : Option (FuncId × List SV) :=
  match o.op with
  | .call c => match c.callee with
    | .value f => match goCallee (ev f) with
      | some (g, first, caps) => some (g, first ++ c.args.toList.map ev ++ caps)
      | none => none
    | _ => none
  | _ => none
def goDefer (o : Oper) (ev : Operand → SV) : Option SD :=
  match o.op with
  | .defer c => match c.callee with
    | .value f => match goCallee (ev f) with
      | some (g, first, caps) => some ⟨g, caps, first ++ c.args.toList.map ev⟩
      | none => none
    | _ => none
  | _ => none
def goPanics (o : Oper) (ev : Operand → SV) : Option Value :=
  match o.op with
  | .panic x => match ev x with
    | .val (.iface t v) => some (.iface t v)
    | _ => none
  | .call c => match c.callee, c.args.toList with
    | .builtin .panic, [x] => match ev x with
      | .val (.iface t v) => some (.iface t v)
      | _ => none
    | _, _ => none
  | _ => none

/-- what a test has shown is written into the slot -/
def St.refine (s : St) (t : Option Tmp) (b : Bool) : St :=
  match t with
  | some t => { s with t := s.t.set t (.val (.bool b)) }
  | none => s
def gateT (ops : Array Oper) (j : Nat) : Option Tmp := (ops[j]?).bind (·.dst)
def condT : Operand → Option Tmp
  | .tmp t => some t
  | _ => none
/-- what a guard's operation has yielded -/
def gate (ops : Array Oper) (s : St) (j : Nat) : Option (Option Bool) :=
  match (ops[j]?).bind (·.dst) with
  | none => none
  | some t => match nth s.t t with
    | some (.val (.bool b)) => some (some b)
    | some (.val (.tuple _)) => some none
    | _ => none

def SD.R (ρ : Ctx) (d : SD) (D : Deferred) : Prop :=
  ∃ cs az, D = { target := .fn (.func d.f) cs.toArray, args := az.toArray } ∧ SV.RL ρ d.caps cs ∧ SV.RL ρ d.args az
def DL (ρ : Ctx) : List SD → List Deferred → Prop
  | [], D => D = []
  | d :: l, D => ∃ x r, D = x :: r ∧ d.R ρ x ∧ DL ρ l r
structure Rep (E : Env) (ρ : Ctx) (s : St) (a : Act) (w : World) : Prop where
  t : ∃ us, a.tmps = us.toArray ∧ SV.RL ρ s.t us
  d : DL ρ s.d a.defers
  m : Mem E ρ s.m w

theorem SV.R.pre {ρ ρ' : Ctx} (h : Le ρ ρ') {x : SV} {u : Value} (hh : x.R ρ u) : x.R ρ' u := SV.R.mono h x u hh
theorem SV.RL.pre {ρ ρ' : Ctx} (h : Le ρ ρ') {x : List SV} {u : List Value} (hh : SV.RL ρ x u) : SV.RL ρ' x u := SV.RL.mono h x u hh
theorem DL.pre {ρ ρ' : Ctx} (h : Le ρ ρ') : ∀ {l : List SD} {D : List Deferred}, DL ρ l D → DL ρ' l D
  | [], _, hh => hh
  | _ :: _, _, ⟨x, r, h1, ⟨cs, az, h2, h3, h4⟩, h5⟩ => ⟨x, r, h1, ⟨cs, az, h2, h3.pre h, h4.pre h⟩, DL.pre h h5⟩

section
variable {E : Env} {P : Program} {ρ ρ' : Ctx} {s : St} {a : Act} {w w' : World} {v : SV} {u : Value}

theorem undef_R : (SV.val undef).R ρ undef := rfl
theorem Rep.eval (h : Rep E ρ s a w) (x : Operand) : (evalS s x).R ρ (a.eval x) := by
  cases x with
  | tmp t =>
    obtain ⟨us, h1, h2⟩ := h.t
    simp only [evalS, Act.eval, nth_eq, h1]
    cases ht : s.t[t]? with
    | none =>
      have hl : us.length ≤ t := by
        have := List.getElem?_eq_none_iff.1 ht
        rw [h2.length]; exact this
      have hnl : ¬ t < us.toArray.size := by simpa using hl
      rw [Array.getD, dif_neg hnl]
      rfl
    | some x =>
      obtain ⟨u, hu, hx⟩ := h2.get ht
      obtain ⟨hlt, hu'⟩ := List.getElem?_eq_some_iff.1 hu
      simp [Array.getD, hlt, hu', hx]
  | const v => rfl
  | global g => rfl
  | func f => rfl
theorem Rep.put {m' : List Blk} (h : Rep E ρ s a w) (hp : Le ρ ρ') (hv : v.R ρ' u) (hm : Mem E ρ' m' w') (dst : Option Tmp) : Rep E ρ' (St.put { s with m := m' } dst v) (a.put dst u) w' := by
  obtain ⟨us, h1, h2⟩ := h.t
  cases dst with
  | none => exact ⟨⟨us, h1, h2.pre hp⟩, h.d.pre hp, hm⟩
  | some d =>
    refine ⟨⟨us.set d u, ?_, (h2.pre hp).set d hv⟩, h.d.pre hp, hm⟩
    simp [Act.put, h1]
theorem Rep.mem {m' : List Blk} (h : Rep E ρ s a w) (hp : Le ρ ρ') (hm : Mem E ρ' m' w') : Rep E ρ' { s with m := m' } a w' := by
  obtain ⟨us, h1, h2⟩ := h.t
  exact ⟨⟨us, h1, h2.pre hp⟩, h.d.pre hp, hm⟩
theorem Rep.skip (h : Rep E ρ s a w) (dst : Option Tmp) : Rep E ρ (s.put dst (.val undef)) (a.put dst undef) w := by
  have := h.put (v := .val undef) (u := undef) (m' := s.m) (Le.refl _) rfl h.m dst
  exact this
theorem Rep.drawn (h : Rep E ρ s a w) (n : Nat) : Rep E ρ s a { w with drawn := n } := ⟨h.t, h.d, h.m.drawn n⟩

def OutOk (ρ : Ctx) (o : Out) (R : Ending → World → Prop) (w : World) : Prop :=
  match o.e with
  | .ret v => ∀ u, v.R ρ u → R (.returned u) w
  | .pan v => ∀ u, v.R ρ u → R (.panicked [{ v := u, recovered := false }]) w
/-- calls of functions with a body are entered -/
def NamesOk (P : Program) : Prop := ∀ (f : FuncId) (fn : Func), P.funcs[f]? = some fn → fn.body.isSome = true → (fn.name == "runtime.NumGoroutine") = false

theorem RL.vals_map (ρ : Ctx) (l : List Value) : SV.RL ρ (l.map .val) l := SV.RL.vals l
theorem callee_R {x : SV} {u : Value} {f : FuncId} {first caps : List SV} (hx : x.R ρ u) (h : goCallee x = some (f, first, caps)) :
    ∃ us vs, u = .func (.func f) us.toArray vs.toArray ∧ SV.RL ρ first us ∧ SV.RL ρ caps vs := by
  unfold goCallee at h
  split at h
  · cases h
    exact ⟨_, _, by rw [Array.toArray_toList, Array.toArray_toList]; exact hx, SV.RL.vals _, SV.RL.vals _⟩
  · cases h
    obtain ⟨us, vs, h1, h2, h3⟩ := hx
    exact ⟨us, vs, h1, h2, h3⟩
  · cases h
theorem call_run {o : Oper} {ev : Operand → SV} {f : FuncId} {args : List SV} (hN : NamesOk P) (he : ∀ x, (ev x).R ρ (a.eval x)) (h : goCall o ev = some (f, args)) (hb : ∃ fn, P.funcs[f]? = some fn ∧ fn.body.isSome = true) :
    ∃ us, (execOp a.eval o).run P w = .ok (.enter f us.toArray) w ∧ SV.RL ρ args us := by
  unfold goCall at h
  split at h
  · rename_i c hop
    split at h
    · rename_i x hc
      split at h
      · rename_i g first caps hg
        cases h
        obtain ⟨us, vs, h1, h2, h3⟩ := callee_R (he x) hg
        obtain ⟨fn, hf, hbb⟩ := hb
        refine ⟨us ++ c.args.toList.map a.eval ++ vs, ?_, (h2.append (RL.map_ops he _)).append h3⟩
        have hn := hN _ _ hf hbb
        have hn' : fn.body.isNone = false := by cases hx : fn.body <;> simp_all
        have hn2 : ¬ fn.name = "runtime.NumGoroutine" := by simpa using hn
        have hargs : (us.toArray ++ Array.map a.eval c.args ++ vs.toArray) = (us ++ c.args.toList.map a.eval ++ vs).toArray := by
          apply Array.toList_inj.1
          simp
        have hcf : ∀ args, (callFunc f args).run P w = .ok (.enter f args) w := fun args => by
          simp only [callFunc, program, Sem.run_bind, Sem.run, Result.andThen_ok, hf, hn, hn', Bool.false_eq_true, if_false, Sem.run_pure]
        simp only [execOp, hop, resolve, hc, h1, Deferred.ofValue, invoke, Sem.run_bind, Sem.run_pure, Result.andThen_ok, hcf, hargs]
      · cases h
    · cases h
  · cases h
theorem defer_run {o : Oper} {ev : Operand → SV} {d : SD} (he : ∀ x, (ev x).R ρ (a.eval x)) (h : goDefer o ev = some d) :
    ∃ D, (execOp a.eval o).run P w = .ok (.defer D) w ∧ d.R ρ D := by
  unfold goDefer at h
  split at h
  · rename_i c hop
    split at h
    · rename_i x hc
      split at h
      · rename_i g first caps hg
        cases h
        obtain ⟨us, vs, h1, h2, h3⟩ := callee_R (he x) hg
        refine ⟨{ target := .fn (.func g) vs.toArray, args := (us ++ c.args.toList.map a.eval).toArray }, ?_, ⟨_, _, rfl, h3, h2.append (RL.map_ops he _)⟩⟩
        have hargs : (us.toArray ++ Array.map a.eval c.args) = (us ++ c.args.toList.map a.eval).toArray := by
          apply Array.toList_inj.1
          simp
        simp only [execOp, hop, resolve, hc, h1, Deferred.ofValue, Sem.run_bind, Sem.run_pure, Result.andThen_ok, hargs]
      · cases h
    · cases h
  · cases h
theorem panics_run {o : Oper} {ev : Operand → SV} {pv : Value} (he : ∀ x, (ev x).R ρ (a.eval x)) (h : goPanics o ev = some pv) :
    (execOp a.eval o).run P w = .halt (.panic pv) w := by
  unfold goPanics at h
  split at h
  · rename_i x hop
    split at h
    · rename_i t v hx
      cases h
      have h1 := he x
      rw [hx] at h1
      have h2 : a.eval x = .iface t v := h1
      simp [execOp, hop, h2, Instr.panic, goPanic, Sem.run]
    · cases h
  · rename_i c hop
    split at h
    · rename_i x hc ha
      split at h
      · rename_i t v hx
        cases h
        have h1 := he x
        rw [hx] at h1
        have h2 : a.eval x = .iface t v := h1
        have ha' : c.args = #[x] := by
          rw [← Array.toList_inj]
          simpa using ha
        simp [execOp, hop, resolve, hc, ha', invoke, builtin, h2, Instr.panic, goPanic, Sem.run]
      · cases h
    · cases h
  · cases h

theorem gate_R {ops : Array Oper} {j : Nat} {b : Option Bool} (hr : Rep E ρ s a w) (h : gate ops s j = some b) : yielded ops a.tmps j = b := by
  unfold gate at h
  unfold yielded
  split at h
  · cases h
  · rename_i t ht
    rw [ht]
    obtain ⟨us, h1, h2⟩ := hr.t
    rw [nth_eq] at h
    split at h
    · rename_i b' hb
      cases h
      obtain ⟨u, hu, hx⟩ := h2.get hb
      have hx' : u = .bool b' := hx
      simp [h1, hu, hx']
    · rename_i vs hb
      cases h
      obtain ⟨u, hu, hx⟩ := h2.get hb
      have hx' : u = .tuple vs := hx
      simp [h1, hu, hx']
    · cases h


theorem refine_eq {s : St} {t : Tmp} {b : Bool} (h : nth s.t t = some (.val (.bool b))) : s.refine (some t) b = s := by
  have : s.t.set t (.val (.bool b)) = s.t := by
    rw [nth_eq] at h
    apply List.ext_getElem?
    intro j
    rw [List.getElem?_set]
    split
    · rename_i hj
      subst hj
      split
      · exact h.symm
      · rename_i hlt
        rw [List.getElem?_eq_none (by omega)]
    · rfl
  unfold St.refine
  simp only
  rw [this]
theorem gate_refine {ops : Array Oper} {s : St} {j : Nat} {b : Bool} (h : gate ops s j = some (some b)) : s.refine (gateT ops j) b = s := by
  unfold gate at h
  unfold gateT
  split at h
  · cases h
  · rename_i t ht
    rw [ht]
    split at h
    · rename_i b' hb
      cases h
      exact refine_eq hb
    · cases h
    · cases h
theorem cond_refine {s : St} {c : Operand} {b : Bool} (h : evalS s c = .val (.bool b)) : s.refine (condT c) b = s := by
  cases c with
  | tmp t =>
    unfold evalS at h
    simp only at h
    cases hn : nth s.t t with
    | none => rw [hn] at h; simp [undef] at h
    | some x => rw [hn] at h; simp at h; subst h; exact refine_eq hn
  | const v => rfl
  | global g => rfl
  | func f => rfl

/-- the surroundings of a run that begins now and writes nothing that was there -/
def Env.iso (rd : Rd) (w : World) (h : rd.Ok w fun _ => False) (z : Nat → Nat → Option Value) : Env := { w0 := w, S := fun _ => False, ρ0 := ⟨fun _ => none, fun _ => none, z⟩, rd := rd, ok := h }
def ZOk (z : Nat → Nat → Option Value) (w : World) : Prop := ∀ (r o : Nat) (x : Value), z r o = some x → w.cell? ⟨r, o, none⟩ = some x
theorem Mem.startIso {rd : Rd} {w : World} (h : rd.Ok w fun _ => False) {z : Nat → Nat → Option Value} (hz : ZOk z w) : Mem (Env.iso rd w h z) ⟨fun _ => none, fun _ => none, z⟩ [] w :=
  ⟨fun i r h => (nomatch h), fun i b r _ h => (nomatch h), fun i r h => (nomatch h), fun i j r h => (nomatch h), fun i b r _ h => (nomatch h), ⟨rfl, rfl, rfl, Nat.le_refl _, fun _ _ _ => rfl⟩, Le.refl _, fun i r h => (nomatch h),
    fun i u h => (nomatch h), fun i t l u _ h => (nomatch h), fun i j t l t' l' u u' r _ _ h => (nomatch h), hz, fun i b r o _ h => (nomatch h), fun i l t r o x _ h => (nomatch h), fun r o x h _ => h⟩
theorem Mem.stopIso {rd : Rd} {w w' : World} {h : rd.Ok w fun _ => False} {z : Nat → Nat → Option Value} {ρ : Ctx} {m : List Blk} (hm : Mem (Env.iso rd w h z) ρ m w') : Below w.heap.size w w' :=
  ⟨hm.kept.os, hm.kept.tape, hm.kept.output, hm.kept.size, fun k hk => hm.kept.block k hk id⟩
/-- behind a call that begins with what stands still -/
theorem Mem.afterIso {rd : Rd} {E : Env} {ρ ρ1 : Ctx} {m m1 : List Blk} {w w' : World} {h : rd.Ok w fun _ => False} (hm : Mem E ρ m w) (h1 : Mem (Env.iso rd w h ρ.z) ρ1 m1 w') : Le ρ ⟨ρ.b, ρ.v, ρ1.z⟩ ∧ Mem E ⟨ρ.b, ρ.v, ρ1.z⟩ m w' :=
  hm.belowZ h1.stopIso h1.pre.z h1.zok h1.znew
end
mutual
/-- the blocks counted from 'k' on -/
def SV.shift (k : Nat) : SV → SV
  | .val v => .val v
  | .any => .any
  | .ptr i off => .ptr (k + i) off
  | .sl i off n c => .sl (k + i) off n c
  | .mp i => .mp (k + i)
  | .agg l => .agg (SV.shiftL k l)
  | .tup l => .tup (SV.shiftL k l)
  | .clo fn l c => .clo fn (SV.shiftL k l) (SV.shiftL k c)
  | .dsl t l => .dsl t l
  | .dpt t y off => .dpt t y off
  | .vec i => .vec (k + i)
  | .wpt i s j o => .wpt (k + i) s j o
  | .emp => .emp
def SV.shiftL (k : Nat) : List SV → List SV
  | [] => []
  | x :: l => x.shift k :: SV.shiftL k l
end
def Blk.shift (k : Nat) : Blk → Blk
  | .dead => .dead
  | .cells l t w => .cells (SV.shiftL k l) t w
  | .mp l => .mp (l.map fun kv => (kv.1, kv.2.shift k))
  | .vec t l b => .vec t l b
  | .pm kt vt l => .pm kt vt l
mutual
/-- a value that leads to no block of ours -/
def SV.deep : SV → Bool
  | .val _ => true
  | .agg l => SV.deepL l
  | .tup l => SV.deepL l
  | .clo _ l c => SV.deepL l && SV.deepL c
  | .dsl _ _ => true
  | .dpt _ _ _ => true
  | _ => false
def SV.deepL : List SV → Bool
  | [] => true
  | x :: l => x.deep && SV.deepL l
end
/-- nothing is numbered -/
def Ctx.bare (z : Nat → Nat → Option Value) : Ctx := ⟨fun _ => none, fun _ => none, z⟩
mutual
theorem deep_R {ρ ρ' : Ctx} (hz : ∀ r o u, ρ.z r o = some u → ρ'.z r o = some u) : ∀ (x : SV) (u : Value), x.deep = true → x.R ρ u → x.R ρ' u
  | .val _, _, _, h => h
  | .any, _, h, _ => by simp [SV.deep] at h
  | .ptr _ _, _, h, _ => by simp [SV.deep] at h
  | .sl _ _ _ _, _, h, _ => by simp [SV.deep] at h
  | .mp _, _, h, _ => by simp [SV.deep] at h
  | .vec _, _, h, _ => by simp [SV.deep] at h
  | .wpt _ _ _ _, _, h, _ => by simp [SV.deep] at h
  | .emp, _, h, _ => by simp [SV.deep] at h
  | .agg l, u, h, ⟨us, h1, h2⟩ => ⟨us, h1, deep_RL hz l us (by simpa [SV.deep] using h) h2⟩
  | .tup l, u, h, ⟨us, h1, h2⟩ => ⟨us, h1, deep_RL hz l us (by simpa [SV.deep] using h) h2⟩
  | .clo fn l c, u, h, ⟨us, vs, h1, h2, h3⟩ => by
    simp only [SV.deep, Bool.and_eq_true] at h
    exact ⟨us, vs, h1, deep_RL hz l us h.1 h2, deep_RL hz c vs h.2 h3⟩
  | .dsl t l, u, _, h => HC.mono hz (.sl t) l _ h
  | .dpt t y off, u, _, ⟨r, o, ds, h1, h2, h3⟩ => ⟨r, o, ds, h1, h2.mono hz, HC.mono hz t y ds h3⟩
theorem deep_RL {ρ ρ' : Ctx} (hz : ∀ r o u, ρ.z r o = some u → ρ'.z r o = some u) : ∀ (l : List SV) (us : List Value), SV.deepL l = true → SV.RL ρ l us → SV.RL ρ' l us
  | [], _, _, h => h
  | x :: l, _, h, ⟨u, us', h1, h2, h3⟩ => by
    simp only [SV.deepL, Bool.and_eq_true] at h
    exact ⟨u, us', h1, deep_R hz x u h.1 h2, deep_RL hz l us' h.2 h3⟩
end
section
variable {E : Env} {P : Program} {rd : Rd} {ρ ρ' : Ctx} {s : St} {a : Act} {w w' : World} {v : SV} {u : Value}
/-! ### calls of one's own blocks laid beside the caller's -/
/-- the numbers of two lots of blocks, one behind the other -/
def beside (ρ ρ1 : Ctx) (k : Nat) : Ctx := ⟨fun i => if i < k then ρ.b i else ρ1.b (i - k), fun i => if i < k then ρ.v i else ρ1.v (i - k), ρ1.z⟩
theorem beside_b {ρ ρ1 : Ctx} {k i b : Nat} (h : ρ1.b i = some b) : (beside ρ ρ1 k).b (k + i) = some b := by
  show (if k + i < k then _ else ρ1.b (k + i - k)) = some b
  rw [if_neg (by omega), show k + i - k = i by omega]
  exact h
theorem beside_v {ρ ρ1 : Ctx} {k i : Nat} {b : Value} (h : ρ1.v i = some b) : (beside ρ ρ1 k).v (k + i) = some b := by
  show (if k + i < k then _ else ρ1.v (k + i - k)) = some b
  rw [if_neg (by omega), show k + i - k = i by omega]
  exact h
mutual
theorem shift_R {ρ ρ1 : Ctx} {k : Nat} : ∀ (x : SV) (u : Value), x.R ρ1 u → (x.shift k).R (beside ρ ρ1 k) u
  | .val _, _, h => h
  | .any, _, h => h
  | .ptr i off, u, ⟨b, h1, h2⟩ => ⟨b, beside_b h1, h2⟩
  | .sl i off n c, u, ⟨b, h1, h2⟩ => ⟨b, beside_b h1, h2⟩
  | .mp i, u, ⟨b, h1, h2⟩ => ⟨b, beside_b h1, h2⟩
  | .agg l, u, ⟨us, h1, h2⟩ => ⟨us, h1, shift_RL l us h2⟩
  | .tup l, u, ⟨us, h1, h2⟩ => ⟨us, h1, shift_RL l us h2⟩
  | .clo fn l c, u, ⟨us, vs, h1, h2, h3⟩ => ⟨us, vs, h1, shift_RL l us h2, shift_RL c vs h3⟩
  | .dsl t l, u, h => h
  | .dpt t y off, u, h => h
  | .vec i, u, ⟨h1, h2⟩ => ⟨beside_v h1, h2⟩
  | .wpt i s j o, u, ⟨r, n, c, h1, h2⟩ => ⟨r, n, c, beside_v h1, h2⟩
  | .emp, u, h => h
theorem shift_RL {ρ ρ1 : Ctx} {k : Nat} : ∀ (l : List SV) (us : List Value), SV.RL ρ1 l us → SV.RL (beside ρ ρ1 k) (SV.shiftL k l) us
  | [], _, h => h
  | x :: l, _, ⟨u, us', h1, h2, h3⟩ => ⟨u, us', h1, shift_R x u h2, shift_RL l us' h3⟩
end
theorem shift_O {ρ ρ1 : Ctx} {k : Nat} {b : Blk} {o : Obj} (h : b.O ρ1 o) : (b.shift k).O (beside ρ ρ1 k) o := by
  cases b with
  | dead => trivial
  | vec t l b => trivial
  | pm kt vt l => exact h
  | cells l t wr => obtain ⟨us, h1, h2⟩ := h; exact ⟨us, h1, shift_RL l us h2⟩
  | mp l =>
    obtain ⟨es, c, h1, h2⟩ := h
    refine ⟨es, c, h1, ?_⟩
    have gen : ∀ (l : List (Value × SV)) (es : List MapEntry), KL ρ1 l es → KL (beside ρ ρ1 k) (l.map fun kv => (kv.1, kv.2.shift k)) es := by
      intro l
      induction l with
      | nil => intro es h; exact h
      | cons y l ih => rintro es ⟨e, es', h1, h2, h3, h4⟩; exact ⟨e, es', h1, h2, shift_R _ _ h3, ih es' h4⟩
    exact gen l es h2
theorem beside_le {ρ1 : Ctx} {m : List Blk} (hm : Mem E ρ m w) (hz : ∀ r o u, ρ.z r o = some u → ρ1.z r o = some u) : Le ρ (beside ρ ρ1 m.length) := ⟨fun i b hi => by
  show (if i < m.length then ρ.b i else _) = some b
  rw [if_pos (hm.dom i b hi)]
  exact hi, fun i u hi => by
  show (if i < m.length then ρ.v i else _) = some u
  rw [if_pos (hm.vdom i u hi)]
  exact hi, hz⟩
theorem shift_vec {k : Nat} {b : Blk} {t : Ty} {l : List t.den} {bw : Bool} (h : b.shift k = .vec t l bw) : b = .vec t l bw := by
  cases b with
  | vec t' l' => exact h
  | _ => cases h
theorem shift_cells {k : Nat} {b : Blk} {l : List SV} {t : TypeId} {g : Bool} (h : b.shift k = .cells l t g) : ∃ l', b = .cells l' t g := by
  cases b with
  | cells l' t' g' => cases h; exact ⟨_, rfl⟩
  | _ => cases h
theorem shift_live {k : Nat} {b : Blk} : (b.shift k).live = b.live := by cases b <;> rfl
theorem Mem.beside {m m1 : List Blk} {ρ1 : Ctx} {h : rd.Ok w fun _ => False} (hm : Mem E ρ m w) (h1 : Mem (Env.iso rd w h ρ.z) ρ1 m1 w') :
    Mem E (beside ρ ρ1 m.length) (m ++ m1.map (Blk.shift m.length)) w' := by
  obtain ⟨_, hm'⟩ := hm.afterIso h1
  have le := beside_le hm h1.pre.z
  have fresh : ∀ i r : Nat, ρ1.b i = some r → w.heap.size ≤ r := fun i r hi => (h1.new i r hi).elim (fun h => by cases h) id
  have vfresh : ∀ (i : Nat) (t : Ty) (l : List t.den) (bw : Bool) (u : Value) (r : Nat), m1[i]? = some (.vec t l bw) → ρ1.v i = some u → vblk u = some r → w.heap.size ≤ r := fun i t l bw u r h2 h3 h4 => by
    obtain ⟨_, g2⟩ := h1.vok i t l bw u h2 h3
    rcases g2 with ⟨rfl, _⟩ | ⟨r', c, us, ty, k1, _, _, k4, _⟩
    · cases h4
    · rw [k1] at h4; cases h4; exact k4
  have vlt : ∀ (i : Nat) (t : Ty) (l : List t.den) (bw : Bool) (u : Value) (r : Nat), m[i]? = some (.vec t l bw) → ρ.v i = some u → vblk u = some r → r < w.heap.size := fun i t l bw u r h2 h3 h4 => by
    obtain ⟨_, g2⟩ := hm.vok i t l bw u h2 h3
    rcases g2 with ⟨rfl, _⟩ | ⟨r', c, us, ty, k1, k2, _⟩
    · cases h4
    · rw [k1] at h4; cases h4; exact (Array.getElem?_eq_some_iff.1 k2).1
  have splt : ∀ i r : Nat, (SX.beside ρ ρ1 m.length).b i = some r → (i < m.length ∧ ρ.b i = some r) ∨ (m.length ≤ i ∧ ρ1.b (i - m.length) = some r) := fun i r hi => by
    have hi' : (if i < m.length then ρ.b i else ρ1.b (i - m.length)) = some r := hi
    split at hi'
    · rename_i hlt; exact .inl ⟨hlt, hi'⟩
    · rename_i hge; exact .inr ⟨by omega, hi'⟩
  have vsplt : ∀ (i : Nat) (u : Value), (SX.beside ρ ρ1 m.length).v i = some u → (i < m.length ∧ ρ.v i = some u) ∨ (m.length ≤ i ∧ ρ1.v (i - m.length) = some u) := fun i u hi => by
    have hi' : (if i < m.length then ρ.v i else ρ1.v (i - m.length)) = some u := hi
    split at hi'
    · rename_i hlt; exact .inl ⟨hlt, hi'⟩
    · rename_i hge; exact .inr ⟨by omega, hi'⟩
  have getL : ∀ i : Nat, i < m.length → (m ++ m1.map (Blk.shift m.length))[i]? = m[i]? := fun i hi => List.getElem?_append_left hi
  have getR : ∀ i : Nat, m.length ≤ i → (m ++ m1.map (Blk.shift m.length))[i]? = (m1[i - m.length]?).map (Blk.shift m.length) := fun i hi => by
    rw [List.getElem?_append_right hi, List.getElem?_map]
  have vget : ∀ (i : Nat) (t : Ty) (l : List t.den) (bw : Bool) (u : Value), (m ++ m1.map (Blk.shift m.length))[i]? = some (.vec t l bw) → (SX.beside ρ ρ1 m.length).v i = some u → (i < m.length ∧ m[i]? = some (.vec t l bw) ∧ ρ.v i = some u) ∨ (m.length ≤ i ∧ m1[i - m.length]? = some (.vec t l bw) ∧ ρ1.v (i - m.length) = some u) := fun i t l bw u h2 h3 => by
    rcases vsplt i u h3 with ⟨h4, h5⟩ | ⟨h4, h5⟩
    · rw [getL i h4] at h2
      exact .inl ⟨h4, h2, h5⟩
    · rw [getR i h4, Option.map_eq_some_iff] at h2
      obtain ⟨b, h6, h7⟩ := h2
      rw [shift_vec h7] at h6
      exact .inr ⟨h4, h6, h5⟩
  refine ⟨fun i r hi => ?_, fun i b r hb hi o ho => ?_, fun i r hi => ?_, fun i j r hi hj => ?_, fun i b r hb hi hlive => ?_, hm'.kept, hm.pre.trans le, fun i r hi => ?_, fun i u hi => ?_, fun i t l bw u h2 h3 => ?_, fun i j t l bw t' l' bw' u u' r h2 h3 h4 h5 h6 h7 => ?_, h1.zok, fun i b r o hb hi hlive => ?_, fun i l t r o x hb hi hc => ?_, hm'.znew⟩
  · rcases splt i r hi with ⟨h2, _⟩ | ⟨h2, h3⟩
    · simp; omega
    · have := h1.dom _ r h3
      simp; omega
  · rcases splt i r hi with ⟨h2, h3⟩ | ⟨h2, h3⟩
    · rw [getL i h2] at hb
      have hle : Le ⟨ρ.b, ρ.v, ρ1.z⟩ (SX.beside ρ ρ1 m.length) := ⟨le.b, le.v, fun _ _ _ h => h⟩
      exact Blk.O.mono hle (hm'.ok i b r hb h3 o ho)
    · rw [getR i h2] at hb
      simp only [Option.map_eq_some_iff] at hb
      obtain ⟨b0, h4, rfl⟩ := hb
      exact shift_O (h1.ok _ b0 r h4 h3 o ho)
  · rcases splt i r hi with ⟨h2, h3⟩ | ⟨h2, h3⟩
    · exact hm'.lt i r h3
    · exact h1.lt _ r h3
  · rcases splt i r hi with ⟨h2, h3⟩ | ⟨h2, h3⟩ <;> rcases splt j r hj with ⟨h4, h5⟩ | ⟨h4, h5⟩
    · exact hm.inj i j r h3 h5
    · have := hm.lt i r h3; have := fresh _ r h5; omega
    · have := hm.lt j r h5; have := fresh _ r h3; omega
    · have := h1.inj _ _ r h3 h5; omega
  · rcases splt i r hi with ⟨h2, h3⟩ | ⟨h2, h3⟩
    · rw [getL i h2] at hb
      exact hm.own i b r hb h3 hlive
    · exact Nat.le_trans hm.kept.size (fresh _ r h3)
  · rcases splt i r hi with ⟨h2, h3⟩ | ⟨h2, h3⟩
    · exact hm.new i r h3 |>.imp (fun h => h) id
    · exact .inr (Nat.le_trans hm.kept.size (fresh _ r h3))
  · rcases vsplt i u hi with ⟨h2, h3⟩ | ⟨h2, h3⟩
    · simp; omega
    · have := h1.vdom _ u h3
      simp; omega
  · rcases vget i t l bw u h2 h3 with ⟨h4, h5, h6⟩ | ⟨h4, h5, h6⟩
    · obtain ⟨g1, g2⟩ := hm'.vok i t l bw u h5 h6
      refine ⟨g1, g2.imp id fun ⟨r, c, us, ty, k1, k2, k3, k4, k5, k6⟩ => ⟨r, c, us, ty, k1, k2, k3, k4, fun q b hq hb => ?_, k6⟩⟩
      rcases splt q r hb with ⟨h7, h8⟩ | ⟨h7, h8⟩
      · rw [getL q h7] at hq
        exact k5 q b hq h8
      · have := fresh _ r h8
        have := vlt i t l bw u r h5 h6 (by rw [k1]; rfl)
        omega
    · obtain ⟨g1, g2⟩ := h1.vok _ t l bw u h5 h6
      refine ⟨g1, g2.imp id fun ⟨r, c, us, ty, k1, k2, k3, k4, k5, k6⟩ => ⟨r, c, us, ty, k1, k2, k3, Nat.le_trans hm.kept.size k4, fun q b hq hb => ?_, k6⟩⟩
      rcases splt q r hb with ⟨h7, h8⟩ | ⟨h7, h8⟩
      · have h9 := hm.lt q r h8
        have h10 : w.heap.size ≤ r := k4
        omega
      · rw [getR q h7, Option.map_eq_some_iff] at hq
        obtain ⟨b0, h9, rfl⟩ := hq
        rw [k5 _ b0 h9 h8]
        rfl
  · rcases vget i t l bw u h2 h4 with ⟨a1, a2, a3⟩ | ⟨a1, a2, a3⟩ <;> rcases vget j t' l' bw' u' h3 h5 with ⟨b1, b2, b3⟩ | ⟨b1, b2, b3⟩
    · exact hm.vinj i j t l bw t' l' bw' u u' r a2 b2 a3 b3 h6 h7
    · have := vlt i t l bw u r a2 a3 h6
      have := vfresh _ t' l' bw' u' r b2 b3 h7
      omega
    · have := vlt j t' l' bw' u' r b2 b3 h7
      have := vfresh _ t l bw u r a2 a3 h6
      omega
    · have := h1.vinj _ _ t l bw t' l' bw' u u' r a2 b2 a3 b3 h6 h7
      omega
  · rcases splt i r hi with ⟨h2, h3⟩ | ⟨h2, h3⟩
    · rw [getL i h2] at hb
      exact hm'.zown i b r o hb h3 hlive
    · rw [getR i h2, Option.map_eq_some_iff] at hb
      obtain ⟨b0, h9, rfl⟩ := hb
      exact h1.zown _ b0 r o h9 h3 (by rw [← shift_live (k := m.length)]; exact hlive)
  · rcases splt i r hi with ⟨h2, h3⟩ | ⟨h2, h3⟩
    · rw [getL i h2] at hb
      exact hm'.zfro i l t r o x hb h3 hc
    · rw [getR i h2, Option.map_eq_some_iff] at hb
      obtain ⟨b0, h9, h10⟩ := hb
      obtain ⟨l0, rfl⟩ := shift_cells h10
      exact h1.zfro _ l0 t r o x h9 h3 hc

/-- the function has a body -/
def HasBody (P : Program) (f : FuncId) : Prop := ∃ fn, P.funcs[f]? = some fn ∧ fn.body.isSome = true
/-- a call whose arguments hold no block of ours comes to this, its blocks counted from nothing -/
def IRuns (rd : Rd) (P : Program) (f : FuncId) (args : List SV) (o : Out) : Prop :=
  ∀ w z R (h : rd.Ok w fun _ => False) us, ZOk z w → SV.RL ⟨fun _ => none, fun _ => none, z⟩ args us → (∀ ρ w', Mem (Env.iso rd w h z) ρ o.m w' → OutOk ρ o R w') → Calls P f us.toArray w R
abbrev ICall (β : Type) := FuncId → List SV → (Out → Option β) → Option β
def ICallOk (rd : Rd) (P : Program) {β : Type} (ic : ICall β) : Prop :=
  ∀ f args kk (out : β), ic f args kk = some out → HasBody P f ∧ ∃ o, kk o = some out ∧ IRuns rd P f args o
/-- a call comes to this -/
def CRuns (rd : Rd) (P : Program) (f : FuncId) (args : List SV) (m : List Blk) (o : Out) : Prop :=
  ∀ E, E.rd = rd → ∀ ρ w us R, Mem E ρ m w → SV.RL ρ args us → (∀ ρ' w', Le ρ ρ' → Mem E ρ' o.m w' → OutOk ρ' o R w') → Calls P f us.toArray w R
abbrev CallK (β : Type) := FuncId → List SV → List Blk → (Out → Option β) → Option β
def CallOk (rd : Rd) (P : Program) {β : Type} (call : CallK β) : Prop :=
  ∀ f args m kk (out : β), call f args m kk = some out → HasBody P f ∧ ∃ o, kk o = some out ∧ CRuns rd P f args m o

end
end Go.SX

