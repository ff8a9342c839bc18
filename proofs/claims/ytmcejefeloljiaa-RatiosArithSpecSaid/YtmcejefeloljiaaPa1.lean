/-
  A symbolic executor over the model's code: values that know their own blocks, and the relation to the model's values.
-/
import Derived.Orders
import Derived.Defers
import Derived.Below
import Derived.Laws.Rows
import Derived.Laws.Tables
import GoSem.Dispatch
import Derived.Laws.Strings
import Derived.Laws.BytesString
import Derived.Tactics
import Derived.LoopN
namespace Go.SX
open Go.RowKit

/-- a value: az it stands; or with pointers to numbered blocks -/
inductive SV where
  | val (v : Value)
  | any
  | ptr (i off : Nat)
  | sl (i off len cap : Nat)
  | mp (i : Nat)
  | agg (l : List SV)
  | tup (l : List SV)
  | clo (fn : Fn) (first caps : List SV)

mutual
def SV.R (ρ : Nat → Option Nat) : SV → Value → Prop
  | .val v, u => u = v
  | .any, _ => True
  | .ptr i off, u => ∃ b, ρ i = some b ∧ u = .pointer (some ⟨b, off, none⟩)
  | .sl i off n c, u => ∃ b, ρ i = some b ∧ u = .slice (some ⟨b, off, none⟩) n c
  | .mp i, u => ∃ b, ρ i = some b ∧ u = .map (some b)
  | .agg l, u => ∃ us, u = .agg us.toArray ∧ SV.RL ρ l us
  | .tup l, u => ∃ us, u = .tuple us.toArray ∧ SV.RL ρ l us
  | .clo fn l k, u => ∃ us vs, u = .func fn us.toArray vs.toArray ∧ SV.RL ρ l us ∧ SV.RL ρ k vs
def SV.RL (ρ : Nat → Option Nat) : List SV → List Value → Prop
  | [], us => us = []
  | x :: l, us => ∃ u us', us = u :: us' ∧ x.R ρ u ∧ SV.RL ρ l us'
end

mutual
theorem SV.R.mono {ρ ρ' : Nat → Option Nat} (h : ∀ i b : Nat, ρ i = some b → ρ' i = some b) : ∀ (x : SV) (u : Value), x.R ρ u → x.R ρ' u
  | .val _, _, hh => hh
  | .any, _, _ => trivial
  | .ptr _ _, _, ⟨b, h1, h2⟩ => ⟨b, h _ _ h1, h2⟩
  | .sl _ _ _ _, _, ⟨b, h1, h2⟩ => ⟨b, h _ _ h1, h2⟩
  | .mp _, _, ⟨b, h1, h2⟩ => ⟨b, h _ _ h1, h2⟩
  | .agg l, _, ⟨us, h1, h2⟩ => ⟨us, h1, SV.RL.mono h l us h2⟩
  | .tup l, _, ⟨us, h1, h2⟩ => ⟨us, h1, SV.RL.mono h l us h2⟩
  | .clo _ l k, _, ⟨us, vs, h1, h2, h3⟩ => ⟨us, vs, h1, SV.RL.mono h l us h2, SV.RL.mono h k vs h3⟩
theorem SV.RL.mono {ρ ρ' : Nat → Option Nat} (h : ∀ i b : Nat, ρ i = some b → ρ' i = some b) : ∀ (l : List SV) (us : List Value), SV.RL ρ l us → SV.RL ρ' l us
  | [], _, hh => hh
  | x :: l, _, ⟨u, us', h1, h2, h3⟩ => ⟨u, us', h1, SV.R.mono h x u h2, SV.RL.mono h l us' h3⟩
end

mutual
/-- az a value of the model, if it holds no block of ours -/
def SV.plain : SV → Option Value
  | .val v => some v
  | .agg l => (SV.plainL l).map fun us => .agg us.toArray
  | .tup l => (SV.plainL l).map fun us => .tuple us.toArray
  | .clo fn l k => match SV.plainL l, SV.plainL k with
    | some us, some vs => some (.func fn us.toArray vs.toArray)
    | _, _ => none
  | _ => none
def SV.plainL : List SV → Option (List Value)
  | [] => some []
  | x :: l => match x.plain, SV.plainL l with
    | some u, some us => some (u :: us)
    | _, _ => none
end

mutual
theorem SV.plain_R {ρ : Nat → Option Nat} : ∀ (x : SV) (v u : Value), x.plain = some v → x.R ρ u → u = v
  | .val _, v, u, h, hr => by
    simp only [SV.plain, Option.some.injEq] at h
    exact hr.trans h
  | .any, _, _, h, _ => by simp [SV.plain] at h
  | .ptr _ _, _, _, h, _ => by simp [SV.plain] at h
  | .sl _ _ _ _, _, _, h, _ => by simp [SV.plain] at h
  | .mp _, _, _, h, _ => by simp [SV.plain] at h
  | .agg l, v, u, h, ⟨us, h1, h2⟩ => by
    simp only [SV.plain, Option.map_eq_some_iff] at h
    obtain ⟨vs, h3, h4⟩ := h
    rw [h1, ← h4, SV.plainL_R l vs us h3 h2]
  | .tup l, v, u, h, ⟨us, h1, h2⟩ => by
    simp only [SV.plain, Option.map_eq_some_iff] at h
    obtain ⟨vs, h3, h4⟩ := h
    rw [h1, ← h4, SV.plainL_R l vs us h3 h2]
  | .clo fn l k, v, u, h, ⟨us, vs, h1, h2, h3⟩ => by
    simp only [SV.plain] at h
    split at h
    · rename_i us' vs' e1 e2
      cases h
      rw [h1, SV.plainL_R l us' us e1 h2, SV.plainL_R k vs' vs e2 h3]
    · cases h
theorem SV.plainL_R {ρ : Nat → Option Nat} : ∀ (l : List SV) (vs us : List Value), SV.plainL l = some vs → SV.RL ρ l us → us = vs
  | [], vs, us, h, hr => by
    simp only [SV.plainL, Option.some.injEq] at h
    subst h
    exact hr
  | x :: l, vs, us, h, ⟨u, us', h1, h2, h3⟩ => by
    simp only [SV.plainL] at h
    split at h
    · rename_i v vs' e1 e2
      cases h
      rw [h1, SV.plain_R x v u e1 h2, SV.plainL_R l vs' us' e2 h3]
    · cases h
end

theorem SV.RL.length {ρ : Nat → Option Nat} : ∀ {l : List SV} {us : List Value}, SV.RL ρ l us → us.length = l.length
  | [], _, h => by rw [SV.RL] at h; simp [h]
  | _ :: l, _, ⟨_, _, h1, _, h3⟩ => by simp [h1, SV.RL.length h3]
theorem SV.RL.get {ρ : Nat → Option Nat} : ∀ {l : List SV} {us : List Value} (_ : SV.RL ρ l us) {i : Nat} {x : SV}, l[i]? = some x → ∃ u, us[i]? = some u ∧ x.R ρ u
  | [], _, _, _, _, h => by simp at h
  | y :: l, _, ⟨u, us', h1, h2, h3⟩, 0, x, h => by
    simp at h
    subst h
    exact ⟨u, by simp [h1], h2⟩
  | y :: l, _, ⟨u, us', h1, h2, h3⟩, i + 1, x, h => by
    obtain ⟨v, hv, hx⟩ := SV.RL.get h3 (i := i) (x := x) (by simpa using h)
    exact ⟨v, by simpa [h1] using hv, hx⟩
theorem SV.RL.set {ρ : Nat → Option Nat} : ∀ {l : List SV} {us : List Value} (_ : SV.RL ρ l us) (i : Nat) {x : SV} {u : Value}, x.R ρ u → SV.RL ρ (l.set i x) (us.set i u)
  | [], _, h, _, _, _, _ => by rw [SV.RL] at h; subst h; simp [SV.RL]
  | y :: l, _, ⟨v, us', h1, h2, h3⟩, 0, x, u, h => by subst h1; exact ⟨u, us', rfl, h, h3⟩
  | y :: l, _, ⟨v, us', h1, h2, h3⟩, i + 1, x, u, h => by subst h1; exact ⟨v, us'.set i u, rfl, h2, SV.RL.set h3 i h⟩
theorem SV.RL.append {ρ : Nat → Option Nat} : ∀ {l k : List SV} {us vs : List Value}, SV.RL ρ l us → SV.RL ρ k vs → SV.RL ρ (l ++ k) (us ++ vs)
  | [], _, _, _, h, hk => by rw [SV.RL] at h; subst h; exact hk
  | x :: l, k, _, vs, ⟨u, us', h1, h2, h3⟩, hk => by subst h1; exact ⟨u, us' ++ vs, rfl, h2, SV.RL.append h3 hk⟩
theorem SV.RL.drop {ρ : Nat → Option Nat} : ∀ {l : List SV} {us : List Value} (_ : SV.RL ρ l us) (n : Nat), SV.RL ρ (l.drop n) (us.drop n)
  | _, _, h, 0 => by simpa using h
  | [], _, h, n + 1 => by rw [SV.RL] at h; subst h; simp [SV.RL]
  | x :: l, _, ⟨u, us', h1, _, h3⟩, n + 1 => by subst h1; simpa using SV.RL.drop h3 n
theorem SV.RL.take {ρ : Nat → Option Nat} : ∀ {l : List SV} {us : List Value} (_ : SV.RL ρ l us) (n : Nat), SV.RL ρ (l.take n) (us.take n)
  | _, _, _, 0 => by simp [SV.RL]
  | [], _, h, n + 1 => by rw [SV.RL] at h; subst h; simp [SV.RL]
  | x :: l, _, ⟨u, us', h1, h2, h3⟩, n + 1 => by subst h1; exact ⟨u, us'.take n, by simp, h2, SV.RL.take h3 n⟩
theorem SV.RL.replicate {ρ : Nat → Option Nat} (v : Value) : ∀ n, SV.RL ρ (List.replicate n (.val v)) (List.replicate n v)
  | 0 => by simp [SV.RL]
  | n + 1 => by
    rw [List.replicate_succ, List.replicate_succ]
    exact ⟨v, _, rfl, rfl, SV.RL.replicate v n⟩
theorem SV.RL.vals {ρ : Nat → Option Nat} : ∀ us : List Value, SV.RL ρ (us.map .val) us
  | [] => rfl
  | u :: us => ⟨u, us, rfl, rfl, SV.RL.vals us⟩

/-- a block of ours -/
inductive Blk where
  | dead
  | cells (l : List SV) (t : TypeId) (wr : Bool)
  | mp (l : List (Value × SV))
def KL (ρ : Nat → Option Nat) : List (Value × SV) → List MapEntry → Prop
  | [], es => es = []
  | kv :: l, es => ∃ e es', es = e :: es' ∧ e.key = kv.1 ∧ kv.2.R ρ e.val ∧ KL ρ l es'
theorem KL.mono {ρ ρ' : Nat → Option Nat} (h : ∀ i b : Nat, ρ i = some b → ρ' i = some b) : ∀ {l : List (Value × SV)} {es : List MapEntry}, KL ρ l es → KL ρ' l es
  | [], _, hh => hh
  | _ :: _, _, ⟨e, es', h1, h2, h3, h4⟩ => ⟨e, es', h1, h2, SV.R.mono h _ _ h3, KL.mono h h4⟩
/-- an object of the heap is az the block says -/
def Blk.O (ρ : Nat → Option Nat) : Blk → Obj → Prop
  | .dead, _ => True
  | .cells l t _, o => ∃ us, o = .cells us.toArray t (0, 0) ∧ SV.RL ρ l us
  | .mp l, o => ∃ es c, o = .map es.toArray c ∧ KL ρ l es
theorem Blk.O.mono {ρ ρ' : Nat → Option Nat} (h : ∀ i b : Nat, ρ i = some b → ρ' i = some b) {b : Blk} {o : Obj} (hh : b.O ρ o) : b.O ρ' o := by
  cases b with
  | dead => trivial
  | cells l t u => obtain ⟨us, h1, h2⟩ := hh; exact ⟨us, h1, SV.RL.mono h _ _ h2⟩
  | mp l => obtain ⟨es, c, h1, h2⟩ := hh; exact ⟨es, c, h1, KL.mono h h2⟩
def Blk.R (ρ : Nat → Option Nat) (w : World) (r : Nat) (b : Blk) : Prop := ∀ o, w.heap[r]? = some o → b.O ρ o
def Blk.live : Blk → Bool
  | .dead => false
  | .cells _ _ m => m
  | .mp _ => true

/-- what is known of memory that came in -/
structure Rd where
  okS : Addr → Bool
  s : Addr → ByteArray
  okI : IntKind → Addr → Bool
  i : IntKind → Addr → Int
  okB : Addr → Bool
  b : Addr → Bool
  okL : Addr → Bool
  l : Addr → Option Addr
  ln : Addr → Nat
  lc : Addr → Nat
/-- it is so in a world, but for some blocks -/
structure Rd.Ok (rd : Rd) (w : World) (S : Nat → Prop) : Prop where
  s : ∀ a, rd.okS a = true → w.cell? a = some (.string (rd.s a)) ∧ ¬ S a.block
  i : ∀ k a, rd.okI k a = true → w.cell? a = some (.int k (rd.i k a)) ∧ ¬ S a.block
  b : ∀ a, rd.okB a = true → w.cell? a = some (.bool (rd.b a)) ∧ ¬ S a.block
  l : ∀ a, rd.okL a = true → w.cell? a = some (.slice (rd.l a) (rd.ln a) (rd.lc a)) ∧ ¬ S a.block
/-- the run's surroundings: the world in which it began, the elder blocks that it may write, the blocks that came in -/
structure Env where
  w0 : World
  S : Nat → Prop
  ρ0 : Nat → Option Nat
  rd : Rd
  ok : rd.Ok w0 S
structure Kept (E : Env) (w : World) : Prop where
  os : w.os = E.w0.os
  tape : w.tape = E.w0.tape
  output : w.output = E.w0.output
  size : E.w0.heap.size ≤ w.heap.size
  block : ∀ k : Nat, k < E.w0.heap.size → ¬ E.S k → w.heap[k]? = E.w0.heap[k]?
theorem Kept.cell {E : Env} {w : World} (h : Kept E w) {a : Addr} {v : Value} (h1 : E.w0.cell? a = some v) (h2 : ¬ E.S a.block) : w.cell? a = some v := by
  have hlt : a.block < E.w0.heap.size := by
    rcases Nat.lt_or_ge a.block E.w0.heap.size with h3 | h3
    · exact h3
    · simp [World.cell?, Array.getElem?_eq_none h3] at h1
  rw [← h1]
  unfold World.cell?
  rw [h.block _ hlt h2]
theorem Kept.read {E : Env} {w : World} (h : Kept E w) : E.rd.Ok w (fun _ => False) :=
  ⟨fun a ha => ⟨h.cell (E.ok.s a ha).1 (E.ok.s a ha).2, id⟩, fun k a ha => ⟨h.cell (E.ok.i k a ha).1 (E.ok.i k a ha).2, id⟩, fun a ha => ⟨h.cell (E.ok.b a ha).1 (E.ok.b a ha).2, id⟩, fun a ha => ⟨h.cell (E.ok.l a ha).1 (E.ok.l a ha).2, id⟩⟩
/-- more blocks have a number -/
def Le (ρ ρ' : Nat → Option Nat) : Prop := ∀ i b : Nat, ρ i = some b → ρ' i = some b
theorem Le.refl (ρ : Nat → Option Nat) : Le ρ ρ := fun _ _ h => h
theorem Le.trans {a b c : Nat → Option Nat} (h : Le a b) (k : Le b c) : Le a c := fun i x hx => k i x (h i x hx)
structure Mem (E : Env) (ρ : Nat → Option Nat) (m : List Blk) (w : World) : Prop where
  dom : ∀ i r : Nat, ρ i = some r → i < m.length
  ok : ∀ (i : Nat) (b : Blk) (r : Nat), m[i]? = some b → ρ i = some r → b.R ρ w r
  lt : ∀ i r : Nat, ρ i = some r → r < w.heap.size
  inj : ∀ i j r : Nat, ρ i = some r → ρ j = some r → i = j
  own : ∀ (i : Nat) (b : Blk) (r : Nat), m[i]? = some b → ρ i = some r → b.live = true → E.S r ∨ E.w0.heap.size ≤ r
  kept : Kept E w
  pre : Le E.ρ0 ρ
  new : ∀ i r : Nat, ρ i = some r → E.ρ0 i = some r ∨ E.w0.heap.size ≤ r

theorem Mem.get {E : Env} {ρ : Nat → Option Nat} {m : List Blk} {w : World} (h : Mem E ρ m w) {i r : Nat} {b : Blk} (hm : m[i]? = some b) (hr : ρ i = some r) : ∃ o, w.heap[r]? = some o ∧ b.O ρ o :=
  ⟨w.heap[r]'(h.lt i r hr), Array.getElem?_eq_getElem _, h.ok i b r hm hr _ (Array.getElem?_eq_getElem _)⟩
/-- what an operation that only reads must know -/
structure View (E : Env) (ρ : Nat → Option Nat) (m : List Blk) (w : World) : Prop where
  obj : ∀ {i r : Nat} {b : Blk}, m[i]? = some b → ρ i = some r → b = .dead ∨ ∃ o, w.heap[r]? = some o ∧ b.O ρ o
  kept : Kept E w
theorem View.get {E : Env} {ρ : Nat → Option Nat} {m : List Blk} {w : World} (h : View E ρ m w) {i r : Nat} {b : Blk} (hm : m[i]? = some b) (hr : ρ i = some r) (hd : b ≠ .dead := by intro h; cases h) : ∃ o, w.heap[r]? = some o ∧ b.O ρ o :=
  (h.obj hm hr).resolve_left hd
theorem Mem.view {E : Env} {ρ : Nat → Option Nat} {m : List Blk} {w : World} (h : Mem E ρ m w) : View E ρ m w := ⟨fun hm hr => .inr (h.get hm hr), h.kept⟩
theorem Mem.drawn {E : Env} {ρ : Nat → Option Nat} {m : List Blk} {w : World} (h : Mem E ρ m w) (n : Nat) : Mem E ρ m { w with drawn := n } :=
  ⟨h.dom, fun i b r h1 h2 => h.ok i b r h1 h2, h.lt, h.inj, h.own, ⟨h.kept.os, h.kept.tape, h.kept.output, h.kept.size, h.kept.block⟩, h.pre, h.new⟩
/-- what a callee does that touches nothing of ours -/
theorem Mem.below {E : Env} {ρ : Nat → Option Nat} {m : List Blk} {w w' : World} (h : Mem E ρ m w) (hb : Below w.heap.size w w') : Mem E ρ m w' := by
  refine ⟨h.dom, fun i b r h1 h2 o ho => ?_, fun i r h1 => Nat.lt_of_lt_of_le (h.lt i r h1) hb.size, h.inj, h.own, ?_, h.pre, h.new⟩
  · exact h.ok i b r h1 h2 o ((hb.block r (h.lt i r h2)).symm.trans ho)
  · exact ⟨hb.os.trans h.kept.os, hb.tape.trans h.kept.tape, hb.output.trans h.kept.output, Nat.le_trans h.kept.size hb.size,
      fun k hk hS => (hb.block k (Nat.lt_of_lt_of_le hk h.kept.size)).trans (h.kept.block k hk hS)⟩

/-- one block more has a number -/
def ext (ρ : Nat → Option Nat) (n r : Nat) : Nat → Option Nat := fun i => if i = n then some r else ρ i
theorem ext_le {ρ : Nat → Option Nat} {n r : Nat} (h : ρ n = none) : Le ρ (ext ρ n r) := fun i b hi => by
  unfold ext
  split
  · rename_i e; subst e; rw [h] at hi; cases hi
  · exact hi
theorem ext_some {ρ : Nat → Option Nat} {n r i x : Nat} (h : ext ρ n r i = some x) : (i ≠ n ∧ ρ i = some x) ∨ (i = n ∧ x = r) := by
  unfold ext at h
  split at h
  · rename_i e; exact .inr ⟨e, (Option.some.inj h).symm⟩
  · rename_i e; exact .inl ⟨e, h⟩
/-- a new block at a place that has no number yet -/
theorem Mem.newAt {E : Env} {ρ : Nat → Option Nat} {m : List Blk} {w : World} (h : Mem E ρ m w) {b1 : Blk} {o1 : Obj} (hl : b1.O ρ o1) {n : Nat} (hn : ρ n = none) {m' : List Blk}
    (hlen : ∀ i, i < m.length → i < m'.length) (hm' : ∀ i b, i ≠ n → m'[i]? = some b → i < m.length → m[i]? = some b) (hmn : m'[n]? = some b1) :
    Mem E (ext ρ n w.heap.size) m' { w with heap := w.heap.push o1 } := by
  have mono := ext_le (r := w.heap.size) hn
  have old : ∀ k : Nat, k < w.heap.size → (w.heap.push o1)[k]? = w.heap[k]? := fun k hk => by
    rw [Array.getElem?_push]; simp; omega
  refine ⟨fun i r h1 => ?_, fun i b r h1 h2 o ho => ?_, fun i r h1 => ?_, fun i j r h1 h2 => ?_, fun i b r h1 h2 h3 => ?_, ?_, ?_, fun i r h1 => ?_⟩
  · rcases ext_some h1 with ⟨_, h2⟩ | ⟨hi, _⟩
    · exact hlen i (h.dom i r h2)
    · subst hi; exact (List.getElem?_eq_some_iff.1 hmn).1
  · rcases ext_some h2 with ⟨hne, h2'⟩ | ⟨hi, hr⟩
    · exact (h.ok i b r (hm' i b hne h1 (h.dom i r h2')) h2' o ((old r (h.lt i r h2')).symm.trans ho)).mono mono
    · subst hi; subst hr
      rw [hmn] at h1
      cases h1
      simp at ho
      subst ho
      exact hl.mono mono
  · rcases ext_some h1 with ⟨_, h2⟩ | ⟨_, hr⟩
    · have := h.lt i r h2; simp; omega
    · subst hr; simp
  · rcases ext_some h1 with ⟨_, h3⟩ | ⟨hi, hr⟩ <;> rcases ext_some h2 with ⟨_, h4⟩ | ⟨hj, hr'⟩
    · exact h.inj i j r h3 h4
    · have := h.lt i r h3; omega
    · have := h.lt j r h4; omega
    · omega
  · rcases ext_some h2 with ⟨hne, h2'⟩ | ⟨_, hr⟩
    · exact h.own i b r (hm' i b hne h1 (h.dom i r h2')) h2' h3
    · subst hr; exact .inr h.kept.size
  · refine ⟨h.kept.os, h.kept.tape, h.kept.output, by have := h.kept.size; simp; omega, fun k hk hS => ?_⟩
    rw [old k (Nat.lt_of_lt_of_le hk h.kept.size)]
    exact h.kept.block k hk hS
  · exact h.pre.trans mono
  · rcases ext_some h1 with ⟨_, h2⟩ | ⟨_, hr⟩
    · exact h.new i r h2
    · subst hr; exact .inr h.kept.size
theorem Mem.fresh {E : Env} {ρ : Nat → Option Nat} {m : List Blk} {w : World} (h : Mem E ρ m w) {n : Nat} (hn : m.length ≤ n) : ρ n = none := by
  cases hr : ρ n with
  | none => rfl
  | some r => have := h.dom n r hr; omega
/-- a new block -/
theorem Mem.make {E : Env} {ρ : Nat → Option Nat} {m : List Blk} {w : World} (h : Mem E ρ m w) {b1 : Blk} {o1 : Obj} (hl : b1.O ρ o1) :
    Mem E (ext ρ m.length w.heap.size) (m ++ [b1]) { w with heap := w.heap.push o1 } := by
  refine h.newAt hl (h.fresh (Nat.le_refl _)) (fun i hi => by simp; omega) (fun i b hne h1 hi => ?_) (by simp)
  rw [List.getElem?_append_left hi] at h1
  exact h1

/-- a block of ours written anew -/
theorem Mem.write {E : Env} {ρ : Nat → Option Nat} {m : List Blk} {w : World} (h : Mem E ρ m w) {i r : Nat} {b b1 : Blk} {o1 : Obj} (hm : m[i]? = some b) (hlive : b.live = true)
    (hr : ρ i = some r) (hl : b1.O ρ o1) {w' : World} (hw : w' = { w with heap := w.heap.setIfInBounds r o1 }) :
    Mem E ρ (m.set i b1) w' := by
  subst hw
  have other : ∀ k : Nat, k ≠ r → (w.heap.setIfInBounds r o1)[k]? = w.heap[k]? := fun k hk => by
    rw [Array.getElem?_setIfInBounds_ne (Ne.symm hk)]
  have hlt := h.lt i r hr
  refine ⟨fun j r' h1 => by simpa using h.dom j r' h1, fun j b' r' h1 h2 o ho => ?_, fun j r' h1 => by simpa using h.lt j r' h1, h.inj, fun j b' r' h1 h2 h3 => ?_, ?_, h.pre, h.new⟩
  · rw [List.getElem?_set] at h1
    split at h1
    · rename_i hij
      subst hij
      have : r' = r := Option.some.inj (h2.symm.trans hr)
      subst this
      split at h1
      · cases h1
        simp [hlt] at ho
        subst ho
        exact hl
      · cases h1
    · rename_i hij
      have hne : r' ≠ r := fun e => hij (h.inj i j r hr (e ▸ h2))
      exact h.ok j b' r' h1 h2 o ((other r' hne).symm.trans ho)
  · rw [List.getElem?_set] at h1
    split at h1
    · rename_i hij
      subst hij
      exact h.own i _ r' hm h2 hlive
    · exact h.own j b' r' h1 h2 h3
  · refine ⟨h.kept.os, h.kept.tape, h.kept.output, by simpa using h.kept.size, fun k hk hS => ?_⟩
    have hne : k ≠ r := by
      rintro rfl
      rcases h.own i _ k hm hr hlive with h1 | h1
      · exact hS h1
      · omega
    rw [other k hne]
    exact h.kept.block k hk hS

end Go.SX

/-
  A symbolic executor: one operation.
-/
namespace Go.SX
open Go.RowKit

/-- what comes of an operation: with branches on tests, and with readings of memory that came in -/
inductive R3 (α : Type) where
  | ok (a : α)
  | br (b : Bool) (x y : R3 α)
  | no
def R3.res {α : Type} : R3 α → Option α
  | .ok a => some a
  | .br b x y => bif b then x.res else y.res
  | .no => none
def R3.k {α β : Type} : R3 α → (α → Option β) → Option β
  | .ok a, f => f a
  | .br b x y, f => bif b then x.k f else y.k f
  | .no, _ => none
theorem R3.k_some {α β : Type} : ∀ (x : R3 α) (f : α → Option β) (b : β), x.k f = some b → ∃ a, x.res = some a ∧ f a = some b
  | .ok a, f, b, h => ⟨a, rfl, h⟩
  | .br true x y, f, b, h => R3.k_some x f b h
  | .br false x y, f, b, h => R3.k_some y f b h
  | .no, f, b, h => by cases h
def R3.bind {α β : Type} : R3 α → (α → R3 β) → R3 β
  | .ok a, f => f a
  | .br b x y, f => .br b (x.bind f) (y.bind f)
  | .no, _ => .no
theorem R3.bind_some {α β : Type} : ∀ (x : R3 α) (f : α → R3 β) (b : β), (x.bind f).res = some b → ∃ a, x.res = some a ∧ (f a).res = some b
  | .ok a, f, b, h => ⟨a, rfl, h⟩
  | .br true x y, f, b, h => R3.bind_some x f b h
  | .br false x y, f, b, h => R3.bind_some y f b h
  | .no, f, b, h => by cases h
def R3.need {α : Type} (b : Bool) (x : R3 α) : R3 α := .br b x .no
theorem R3.need_some {α : Type} {b : Bool} {x : R3 α} {a : α} (h : (R3.need b x).res = some a) : b = true ∧ x.res = some a := by
  cases b
  · cases h
  · exact ⟨rfl, h⟩

/-- an operation's meaning that neither reads nor writes -/
def pureV {α : Type} (P : Program) : Sem α → Option α
  | .pure a => some a
  | .program k => pureV P (k P)
  | .mark _ k => pureV P k
  | _ => none
theorem pureV_run {α : Type} {P : Program} : ∀ (s : Sem α) (a : α), pureV P s = some a → ∀ w, s.run P w = .ok a w
  | .pure a, b, h, w => by simp only [pureV, Option.some.injEq] at h; subst h; rfl
  | .program k, b, h, w => by simpa [Sem.run] using pureV_run (k P) b h w
  | .mark _ k, b, h, w => by simpa [Sem.run] using pureV_run k b h w
  | .load .., _, h, _ => by simp [pureV] at h
  | .store .., _, h, _ => by simp [pureV] at h
  | .new .., _, h, _ => by simp [pureV] at h
  | .shape .., _, h, _ => by simp [pureV] at h
  | .freeze .., _, h, _ => by simp [pureV] at h
  | .frozen .., _, h, _ => by simp [pureV] at h
  | .getObj .., _, h, _ => by simp [pureV] at h
  | .setObj .., _, h, _ => by simp [pureV] at h
  | .choose .., _, h, _ => by simp [pureV] at h
  | .sys .., _, h, _ => by simp [pureV] at h
  | .halt _, _, h, _ => by simp [pureV] at h

def nth {α : Type} : List α → Nat → Option α
  | [], _ => none
  | x :: _, 0 => some x
  | _ :: l, n + 1 => nth l n
theorem nth_eq {α : Type} : ∀ (l : List α) (n : Nat), nth l n = l[n]?
  | [], n => by simp [nth]
  | x :: l, 0 => by simp [nth]
  | x :: l, n + 1 => by simp [nth, nth_eq l n]
def cut {α : Type} (l : List α) (off n : Nat) : List α := (l.drop off).take n
def lay {α : Type} (l : List α) (off : Nat) (cs : List α) : List α := l.take off ++ cs ++ l.drop (off + cs.length)

def isOp : Operand → Bool
  | .tmp _ => true
  | _ => false
def SV.cells : SV → Option (List SV)
  | .agg l => some l
  | .val (.agg cs) => some (cs.toList.map .val)
  | .any => none
  | x => some [x]

/-- a value that a cell may hold -/
def atomic : Value → Bool
  | .agg _ => false
  | .tuple _ => false
  | _ => true
def SV.atom : SV → Bool
  | .val v => atomic v
  | .ptr .. => true
  | .sl .. => true
  | .mp _ => true
  | .clo .. => true
  | _ => false

def tyAgg (P : Program) (t : TypeId) : Option Bool := (P.underlying t).map fun | .struct _ | .array _ _ => true | _ => false
def tySize (P : Program) (t : TypeId) : Option Nat := (P.info? t).map (·.size)
def tyZero (P : Program) (t : TypeId) : Option Value := (P.info? t).bind (·.zero)

/-- the reading of a variable of some type in memory that came in -/
def readExt (P : Program) (rd : Rd) (t : TypeId) (a : Addr) (m : List Blk) : R3 (SV × List Blk) :=
  match P.underlying t with
  | some .string => .need (rd.okS a) (.ok (.val (.string (rd.s a)), m))
  | some (.int kd) => .need (rd.okI kd a) (.ok (.val (.int kd (rd.i kd a)), m))
  | some .bool => .need (rd.okB a) (.ok (.val (.bool (rd.b a)), m))
  | some (.slice _) => .need (rd.okL a) (.ok (.val (.slice (rd.l a) (rd.ln a) (rd.lc a)), m))
  | _ => .no
/-- the types of the cells of a variable -/
def flat (P : Program) : Nat → TypeId → Option (List TypeDesc)
  | 0, _ => none
  | n + 1, t => match P.underlying t with
    | some (.struct fields) => fields.toList.foldr (fun f r => match flat P n f.type, r with | some a, some b => some (a ++ b) | _, _ => none) (some [])
    | some (.array _ _) => none
    | some d => some [d]
    | none => none
def readCells (rd : Rd) (a : Addr) : Nat → List TypeDesc → R3 (List SV)
  | _, [] => .ok []
  | j, d :: ds =>
    let b := a.add j
    match d with
    | .string => .need (rd.okS b) ((readCells rd a (j + 1) ds).bind fun l => .ok (.val (.string (rd.s b)) :: l))
    | .int kd => .need (rd.okI kd b) ((readCells rd a (j + 1) ds).bind fun l => .ok (.val (.int kd (rd.i kd b)) :: l))
    | .bool => .need (rd.okB b) ((readCells rd a (j + 1) ds).bind fun l => .ok (.val (.bool (rd.b b)) :: l))
    | .slice _ => .need (rd.okL b) ((readCells rd a (j + 1) ds).bind fun l => .ok (.val (.slice (rd.l b) (rd.ln b) (rd.lc b)) :: l))
    | _ => .no
def readAgg (P : Program) (rd : Rd) (t : TypeId) (a : Addr) (m : List Blk) : R3 (SV × List Blk) :=
  match flat P 8 t, tySize P t with
  | some ds, some n => if ds.length = n then (readCells rd a 0 ds).bind fun l => .ok (.agg l, m) else .no
  | _, _ => .no
def isSel : Op → Bool
  | .select .. => true
  | _ => false

def isNew : Op → Bool
  | .alloc _ => true
  | .box .. => true
  | .buildSlice .. => true
  | .makeMap _ none => true
  | _ => false
def isStore : Op → Bool
  | .store .. => true
  | .insert .. => true
  | .mapUpdate .. => true
  | _ => false

def sxPure (P : Program) (o : Oper) (ev : Operand → SV) (m : List Blk) : R3 (SV × List Blk) :=
  if o.op.operands.toList.all (fun x => (ev x).plain.isSome) && !isSel o.op then
    match pureV P (execOp (fun x => (ev x).plain.getD undef) o) with
    | some (.value v) => .ok (.val v, m)
    | _ => .no
  else .no

def sxLoad (P : Program) (rd : Rd) (t : TypeId) (x : SV) (m : List Blk) : R3 (SV × List Blk) :=
  match x with
  | .ptr i off =>
    match nth m i, tyAgg P t, tySize P t with
    | some (.cells l _ _), some true, some n => if (cut l off n).length = n then .ok (.agg (cut l off n), m) else .no
    | some (.cells l _ _), some false, _ => match nth l off with
      | some v => .ok (v, m)
      | none => .no
    | _, _, _ => .no
  | .val (.pointer (some a)) => match tyAgg P t with
    | some false => readExt P rd t a m
    | some true => readAgg P rd t a m
    | none => .no
  | _ => .no

/-- a block behind a store -/
def stBlk (P : Program) (t : TypeId) (off : Nat) (v : SV) (b : Blk) : Option Blk :=
  match b, v.cells, tySize P t with
  | .cells l ty true, some cs, some n => if decide (cs.length = n) && decide (off + cs.length ≤ l.length) && cs.all SV.atom then some (.cells (lay l off cs) ty true) else none
  | _, _, _ => none
def sxStore (P : Program) (t : TypeId) (x v : SV) (m : List Blk) : R3 (SV × List Blk) :=
  match x with
  | .ptr i off => match nth m i with
    | some b => match stBlk P t off v b with
      | some b' => .ok (.val undef, m.set i b')
      | none => .no
    | none => .no
  | _ => .no

/-- a part of a struct -/
def partV (P : Program) (t : TypeId) (cs : Array Value) (off : Nat) : Option Value :=
  match tyAgg P t with
  | some true => (tySize P t).map fun n => .agg (cs.extract off (off + n))
  | some false => cs[off]?
  | none => none
/-- equality of two values of a type, az far az structs of plain fields -/
def eqV (P : Program) : Nat → TypeId → Value → Value → Option Bool
  | 0, _, _, _ => none
  | n + 1, t, x, y =>
    match P.underlying t with
    | some .bool => match x, y with | .bool a, .bool b => some (a == b) | _, _ => none
    | some (.int _) => match x, y with | .int k a, .int k' b => if k = k' then some (a == b) else none | _, _ => none
    | some .string => match x, y with | .string a, .string b => some (a == b) | _, _ => none
    | some (.struct fields) => match x, y with
      | .agg xs, .agg ys => if P.stoodInHeld t then none else
        (fields.toList.foldr (fun f r => if f.name = "_" then none else match partV P f.type xs f.offset, partV P f.type ys f.offset, r with
          | some u, some v, some c => (eqV P n f.type u v).map (· && c)
          | _, _, _ => none) (some true))
      | _, _ => none
    | _ => none
def isStruct (P : Program) (t : TypeId) : Bool := match P.underlying t with | some (.struct _) => true | _ => false
def sxEq (P : Program) (neg : Bool) (t : TypeId) (x y : SV) (m : List Blk) : R3 (SV × List Blk) :=
  match x.plain, y.plain with
  | some (.agg xs), some (.agg ys) => if P.eqGuardType P.depth t then .no else match eqV P 8 t (.agg xs) (.agg ys) with
    | some b => .ok (.val (.bool (bif neg then !b else b)), m)
    | none => .no
  | _, _ => .no
/-- maps whose keys are strings, ints or bools -/
def keyKind : TypeDesc → Bool
  | .string => true
  | .int _ => true
  | .bool => true
  | _ => false
def sxFind (kind : TypeDesc) (k : Value) : List (Value × SV) → R3 (Option SV)
  | [] => .ok none
  | kv :: l => match Instr.sameNow kind k kv.1 with
    | some b => .br b (.ok (some kv.2)) (sxFind kind k l)
    | none => .no
def sxInsert (P : Program) (t : TypeId) (mp k v : SV) (m : List Blk) : R3 (SV × List Blk) :=
  match P.underlying t, mp, k with
  | some (.map kt _), .mp i, .val kv => match P.underlying kt, nth m i with
    | some kind, some (.mp l) => if keyKind kind then (sxFind kind kv l).bind fun r => match r with
      | none => .ok (.val undef, m.set i (.mp (l ++ [(kv, v)])))
      | some _ => .no
      else .no
    | _, _ => .no
  | _, _, _ => .no
def sxLookup (P : Program) (t : TypeId) (mp k : SV) (ok : Bool) (m : List Blk) : R3 (SV × List Blk) :=
  match P.underlying t, mp, k with
  | some (.map kt et), .mp i, .val kv => match P.underlying kt, nth m i with
    | some kind, some (.mp l) => if keyKind kind then (sxFind kind kv l).bind fun r => match r with
      | some v => .ok (bif ok then .tup [v, .val (.bool true)] else v, m)
      | none => match tyZero P et with
        | some z => .ok (bif ok then .tup [.val z, .val (.bool false)] else .val z, m)
        | none => .no
      else .no
    | _, _ => .no
  | _, _, _ => .no

def sxPick (t : Bool) (x y : SV) (m : List Blk) : R3 (SV × List Blk) :=
  match x, y with
  | .val (.bool x), .val (.bool y) => .ok (.val (.bool (bif t then x else y)), m)
  | x, y => .br t (.ok (x, m)) (.ok (y, m))
def sxFieldAddr (P : Program) (t : TypeId) (i off f : Nat) (m : List Blk) : R3 (SV × List Blk) :=
  match P.underlying t with
  | some (.struct fs) => match fs[f]? with
    | some fd => match tySize P fd.type with
      | some (_ + 1) => .ok (.ptr i (off + fd.offset), m)
      | _ => .no
    | none => .no
  | _ => .no
def sxField (P : Program) (t : TypeId) (l : List SV) (f : Nat) (m : List Blk) : R3 (SV × List Blk) :=
  match P.underlying t with
  | some (.struct fs) => match fs[f]? with
    | some fd => match tyAgg P fd.type, tySize P fd.type with
      | some true, some n => .ok (.agg (cut l fd.offset n), m)
      | some false, _ => match nth l fd.offset with
        | some v => .ok (v, m)
        | none => .no
      | _, _ => .no
    | none => .no
  | _ => .no
def inB (n : Int) (len : Nat) : Bool := decide (0 ≤ n) && decide (n.toNat < len)
def sxIndexAddr (P : Program) (t : TypeId) (x : SV) (n : Int) (m : List Blk) : R3 (SV × List Blk) :=
  match P.underlying t, x with
  | some (.slice e), .sl i off len _ => match tySize P e with
    | some sz => .need (inB n len) (.ok (.ptr i (off + n.toNat * sz), m))
    | none => .no
  | some (.slice e), .val (.slice (some a) len _) => match tySize P e with
    | some sz => .need (inB n len) (.ok (.val (.pointer (some (a.add (n.toNat * sz)))), m))
    | none => .no
  | some (.array len e), .ptr i off => match tySize P e with
    | some sz => .need (inB n len) (.ok (.ptr i (off + n.toNat * sz), m))
    | none => .no
  | _, _ => .no
def sxStrIndex (s : ByteArray) (n : Int) (m : List Blk) : R3 (SV × List Blk) := .need (inB n s.size) (.ok (.val (.int .u8 (s.data.getD n.toNat 0).toNat), m))
def sxSlice (s : ByteArray) (lo hi : Option SV) (m : List Blk) : R3 (SV × List Blk) :=
  match lo, hi with
  | none, none => .ok (.val (.string (s.extract 0 s.size)), m)
  | some (.val (.int _ l)), none => .need (decide (0 ≤ l) && decide (l.toNat ≤ s.size)) (.ok (.val (.string (s.extract l.toNat s.size)), m))
  | none, some (.val (.int _ h)) => .need (decide (0 ≤ h) && decide (h.toNat ≤ s.size)) (.ok (.val (.string (s.extract 0 h.toNat)), m))
  | some (.val (.int _ l)), some (.val (.int _ h)) => .need (decide (0 ≤ l) && decide (0 ≤ h) && decide (l.toNat ≤ h.toNat) && decide (h.toNat ≤ s.size)) (.ok (.val (.string (s.extract l.toNat h.toNat)), m))
  | _, _ => .no
def sxDiv (rem : Bool) (x y : SV) (m : List Blk) : R3 (SV × List Blk) :=
  match x, y with
  | .val (.int k a), .val (.int k' b) => .need (decide (k = k') && !decide (b = 0)) (.ok (.val (.int k (bif rem then a.tmod b else k.wrap (a.tdiv b))), m))
  | _, _ => .no
def sxBuildSlice (P : Program) (t : TypeId) (n : Nat) (ixs : List Nat) (css : Option (List (List SV))) (m : List Blk) : R3 (SV × List Blk) :=
  match P.underlying t, css with
  | some (.slice e), some css => match tySize P e with
    | some sz => if css.all (fun c => c.length == sz) && ixs == List.range n && css.length == n && decide (n * sz ≤ 2 ^ 24) && decide (0 < n * sz) && (tyZero P e).isSome then .ok (.sl m.length 0 n n, m ++ [.cells css.flatten e true]) else .no
    | none => .no
  | _, _ => .no
def sxLen (P : Program) (t : Option TypeId) (x : SV) (m : List Blk) : Option (R3 (SV × List Blk)) :=
  match t.bind P.underlying, x with
  | some (.slice _), .sl _ _ n _ => some (.ok (.val (.int .i64 n), m))
  | some (.slice _), .val (.slice _ n _) => some (.ok (.val (.int .i64 n), m))
  | _, _ => none
def allSome {α : Type} : List (Option α) → Option (List α)
  | [] => some []
  | none :: _ => none
  | some a :: l => (allSome l).map (a :: ·)

/-- a slice of bytes to a string -/
def byteL : List SV → Option (List Int)
  | [] => some []
  | .val (.int .u8 n) :: l => (byteL l).map (n :: ·)
  | _ => none
def strOf (ns : List Int) : ByteArray := ⟨(ns.map fun n => UInt8.ofNat n.toNat).toArray⟩
def sxConv (P : Program) (src dst : TypeId) (i off n : Nat) (m : List Blk) : R3 (SV × List Blk) :=
  match P.underlying src, P.underlying dst with
  | some (.slice e), some .string => match P.underlying e, nth m i with
    | some (.int .u8), some (.cells l _ _) => match byteL (cut l off n) with
      | some ns => if ns.length = n then .ok (.val (.string (strOf ns)), m) else .no
      | none => .no
    | _, _ => .no
  | _, _ => .no

def sxVal (P : Program) (rd : Rd) (o : Oper) (ev : Operand → SV) (m : List Blk) : R3 (SV × List Blk) :=
  match o.op with
  | .move x => .ok (ev x, m)
  | .assign x => .ok (ev x, m)
  | .pick c a b => match ev c with
    | .val (.bool t) => sxPick t (ev a) (ev b) m
    | _ => .no
  | .alloc t => match tyZero P t with
    | some v => .ok (.ptr m.length 0, m ++ [.cells (v.cells.toList.map .val) t true])
    | none => .no
  | .box t x => match (ev x).cells with
    | some l => .ok (.ptr m.length 0, m ++ [.cells l t true])
    | none => .no
  | .load t x => sxLoad P rd t (ev x) m
  | .store t x v => sxStore P t (ev x) (ev v) m
  | .nilCheck x => match ev x with
    | .ptr i off => .ok (.ptr i off, m)
    | .clo (.func f) l k => .ok (.clo (.func f) l k, m)
    | _ => sxPure P o ev m
  | .fieldAddr t x f => match ev x with
    | .ptr i off => sxFieldAddr P t i off f m
    | _ => sxPure P o ev m
  | .makeFunc fn first caps =>
    if (first ++ caps).toList.all (fun x => (ev x).plain.isSome) then sxPure P o ev m
    else .ok (.clo fn (first.toList.map ev) (caps.toList.map ev), m)
  | .extract x ix => match ev x with
    | .tup l => match nth l ix with
      | some v => .ok (v, m)
      | none => .no
    | _ => sxPure P o ev m
  | .field t x f => match ev x with
    | .agg l => sxField P t l f m
    | _ => sxPure P o ev m
  | .index t x ix => match P.underlying t, ev x, ev ix with
    | some .string, .val (.string s), .val (.int _ n) => sxStrIndex s n m
    | _, _, _ => sxPure P o ev m
  | .indexAddr t x ix => match ev ix with
    | .val (.int _ n) => sxIndexAddr P t (ev x) n m
    | _ => .no
  | .binOp op t x y _ => match op with
    | .quo => sxDiv false (ev x) (ev y) m
    | .rem => sxDiv true (ev x) (ev y) m
    | .eql => if isStruct P t then sxEq P false t (ev x) (ev y) m else sxPure P o ev m
    | .neq => if isStruct P t then sxEq P true t (ev x) (ev y) m else sxPure P o ev m
    | _ => sxPure P o ev m
  | .slice t x lo hi mx => match P.underlying t, ev x, mx with
    | some .string, .val (.string s), none => sxSlice s (lo.map ev) (hi.map ev) m
    | _, _, _ => .no
  | .convert src dst x => match ev x with
    | .sl i off n _ => sxConv P src dst i off n m
    | _ => sxPure P o ev m
  | .makeMap _ none => .ok (.mp m.length, m ++ [.mp []])
  | .insert t mp k v => sxInsert P t (ev mp) (ev k) (ev v) m
  | .mapUpdate t mp k v => sxInsert P t (ev mp) (ev k) (ev v) m
  | .lookup t x ix ok => sxLookup P t (ev x) (ev ix) ok m
  | .buildSlice t n parts => sxBuildSlice P t n (parts.toList.map (·.1)) (allSome (parts.toList.map fun p => (ev p.2).cells)) m
  | .call c => match c.callee, c.args.toList with
    | .builtin .len, [x] => match sxLen P c.argTypes[0]? (ev x) m with
      | some r => r
      | none => sxPure P o ev m
    | .builtin _, _ => sxPure P o ev m
    | _, _ => .no
  | _ => sxPure P o ev m

end Go.SX

/-
  A symbolic executor: one operation is as the model does it.
-/
namespace Go.SX
open Go.RowKit

def Does (E : Env) (ρ : Nat → Option Nat) (r : Result Next) (v : SV) (m' : List Blk) : Prop :=
  ∃ nx w' ρ' u, r = .ok nx w' ∧ (nx = .value u ∨ nx = .skip ∧ u = undef) ∧ v.R ρ' u ∧ Mem E ρ' m' w' ∧ Le ρ ρ'

section
variable {E : Env} {P : Program} {ρ : Nat → Option Nat} {m m' : List Blk} {w : World} {a : Act} {o : Oper} {ev : Operand → SV} {v : SV}

/-- an operation that leaves the world az it is -/
def Same (ρ : Nat → Option Nat) (w : World) (r : Result Next) (v : SV) (m m' : List Blk) : Prop := ∃ u, r = .ok (.value u) w ∧ v.R ρ u ∧ m' = m
theorem Same.mk {r : Result Next} {u : Value} (hr : r = .ok (.value u) w) (hv : v.R ρ u) : Same ρ w r v m m := ⟨u, hr, hv, rfl⟩
theorem Same.does {r : Result Next} (hM : Mem E ρ m w) (h : Same ρ w r v m m') : Does E ρ r v m' := by
  obtain ⟨u, h1, h2, rfl⟩ := h
  exact ⟨_, w, ρ, u, h1, .inl rfl, h2, hM, Le.refl _⟩

theorem pure_sound (he : ∀ x, (ev x).R ρ (a.eval x)) (h : (sxPure P o ev m).res = some (v, m')) : Same ρ w ((execOp a.eval o).run P w) v m m' := by
  unfold sxPure at h
  split at h
  · rename_i hc
    rw [Bool.and_eq_true] at hc
    obtain ⟨hp, hs⟩ := hc
    split at h
    · rename_i u hu
      cases h
      refine Same.mk ?_ rfl
      rw [execOp_congr (ρ := a.eval) (ρ' := fun x => (ev x).plain.getD undef) o ?_ ?_]
      · exact pureV_run _ _ hu w
      · intro cs b hb
        rw [hb] at hs
        exact absurd hs (by simp [isSel])
      · intro x hx
        have h1 := List.all_eq_true.1 hp x (by simpa using hx)
        obtain ⟨v, hv⟩ := Option.isSome_iff_exists.1 h1
        rw [hv]
        exact SV.plain_R _ _ _ hv (he x)
    · cases h
  · cases h

theorem run_type {t : TypeId} {d : TypeDesc} (h : P.underlying t = some d) : (underlying t).run P w = .ok d w := by
  simp [underlying, program, Sem.run, h]
theorem run_agg {t : TypeId} {b : Bool} (h : tyAgg P t = some b) : (isAgg t).run P w = .ok b w := by
  unfold tyAgg at h
  cases hu : P.underlying t with
  | none => rw [hu] at h; cases h
  | some d =>
    rw [hu] at h
    simp only [Option.map_some, Option.some.injEq] at h
    simp only [isAgg, Sem.run_bind, run_type hu, Result.andThen_ok]
    rw [← h]
    cases d <;> rfl
theorem run_size {t : TypeId} {n : Nat} (h : tySize P t = some n) : (sizeOf t).run P w = .ok n w := by
  unfold tySize at h
  simp only [Option.map_eq_some_iff] at h
  obtain ⟨i, h1, h2⟩ := h
  simp [sizeOf, typeInfo, program, Sem.run, h1, h2]
theorem run_zero {t : TypeId} {v : Value} (h : tyZero P t = some v) : (zeroValue t).run P w = .ok v w := by
  unfold tyZero at h
  cases hi : P.info? t with
  | none => rw [hi] at h; cases h
  | some i =>
    rw [hi] at h
    simp only [Option.bind_some] at h
    simp [zeroValue, typeInfo, program, Sem.run, hi, h]

theorem addr_add (r off i : Nat) : Addr.add ⟨r, off, none⟩ i = ⟨r, off + i, none⟩ := by
  unfold Addr.add
  split
  · rename_i h; rw [h, Nat.add_zero]
  · rfl
theorem run_load_at {r off : Nat} {us : List Value} {t : TypeId} {z : Nat × Nat} {u : Value} (hb : w.heap[r]? = some (.cells us.toArray t z)) (hu : us[off]? = some u) :
    (load ⟨r, off, none⟩).run P w = .ok u w := by
  simp [load, Sem.run, World.cell?, hb, hu]
theorem run_loadFrom {r off : Nat} {us : List Value} {t : TypeId} {z : Nat × Nat} (hb : w.heap[r]? = some (.cells us.toArray t z)) :
    ∀ (n i : Nat) (acc : List Value), (cut us (off + i) n).length = n → (loadCellsFrom ⟨r, off, none⟩ i n acc.toArray).run P w = .ok (acc ++ cut us (off + i) n).toArray w
  | 0, i, acc, _ => by simp [loadCellsFrom, cut]
  | n + 1, i, acc, hl => by
    have hlt : off + i < us.length := by
      unfold cut at hl
      simp at hl
      omega
    have hcut : cut us (off + i) (n + 1) = us[off + i] :: cut us (off + (i + 1)) n := by
      unfold cut
      rw [List.drop_eq_getElem_cons hlt, List.take_succ_cons, Nat.add_assoc]
    rw [hcut, List.length_cons] at hl
    have h1 : (load (Addr.add ⟨r, off, none⟩ i)).run P w = .ok us[off + i] w := by
      rw [addr_add]
      exact run_load_at hb (List.getElem?_eq_getElem hlt)
    have h2 := run_loadFrom (off := off) hb n (i + 1) (acc ++ [us[off + i]]) (by omega)
    simp only [loadCellsFrom, Sem.run_bind, h1, Result.andThen_ok]
    rw [hcut]
    simpa using h2

theorem run_readCells {rd : Rd} (hrd : rd.Ok w fun _ => False) (a : Addr) : ∀ (ds : List TypeDesc) (j : Nat) (l : List SV) (acc : List Value), (readCells rd a j ds).res = some l →
    ∃ us, (loadCellsFrom a j ds.length acc.toArray).run P w = .ok (acc ++ us).toArray w ∧ SV.RL ρ l us
  | [], j, l, acc, h => by
    cases h
    exact ⟨[], by simp [loadCellsFrom], rfl⟩
  | d :: ds, j, l, acc, h => by
    have step : ∀ (v : Value), w.cell? (a.add j) = some v → ((readCells rd a (j + 1) ds).bind fun l => .ok (.val v :: l)).res = some l → ∃ us, (loadCellsFrom a j (ds.length + 1) acc.toArray).run P w = .ok (acc ++ us).toArray w ∧ SV.RL ρ l us := fun v hv h => by
      obtain ⟨l', h1, h2⟩ := R3.bind_some _ _ _ h
      cases h2
      obtain ⟨us, h3, h4⟩ := run_readCells hrd a ds (j + 1) l' (acc ++ [v]) h1
      refine ⟨v :: us, ?_, ⟨v, us, rfl, rfl, h4⟩⟩
      have h5 : (load (a.add j)).run P w = .ok v w := by simp [load, Sem.run, hv]
      simp only [loadCellsFrom, Sem.run_bind, h5, Result.andThen_ok]
      simpa using h3
    unfold readCells at h
    simp only at h
    split at h
    · obtain ⟨h1, h⟩ := R3.need_some h
      exact step _ (hrd.s _ h1).1 h
    · obtain ⟨h1, h⟩ := R3.need_some h
      exact step _ (hrd.i _ _ h1).1 h
    · obtain ⟨h1, h⟩ := R3.need_some h
      exact step _ (hrd.b _ h1).1 h
    · obtain ⟨h1, h⟩ := R3.need_some h
      exact step _ (hrd.l _ h1).1 h
    · cases h
theorem load_sound {t : TypeId} {x : SV} {u : Value} (hM : View E ρ m w) (hx : x.R ρ u) (h : (sxLoad P E.rd t x m).res = some (v, m')) :
    ∃ u', (Instr.loadAt t u).run P w = .ok u' w ∧ v.R ρ u' ∧ m' = m := by
  unfold sxLoad at h
  split at h
  · rename_i i off
    obtain ⟨r, hr, rfl⟩ := hx
    cases hm : nth m i with
    | none => rw [hm] at h; cases h
    | some b =>
      rw [hm] at h
      rw [nth_eq] at hm
      cases b with
      | dead => cases h
      | mp l => cases h
      | cells l ty wr =>
        obtain ⟨_, hb, us, rfl, hl⟩ := hM.get hm hr
        cases hg : tyAgg P t with
        | none => rw [hg] at h; cases h
        | some g =>
          rw [hg] at h
          cases g with
          | true =>
            cases hs : tySize P t with
            | none => rw [hs] at h; cases h
            | some n =>
              rw [hs] at h
              simp only at h
              split at h
              · rename_i hlen
                cases h
                have hc : SV.RL ρ (cut l off n) (cut us off n) := (hl.drop off).take n
                refine ⟨_, ?_, ⟨_, rfl, hc⟩, rfl⟩
                have h1 := run_loadFrom (P := P) (off := off) hb n 0 [] (by rw [Nat.add_zero, hc.length, hlen])
                simp only [Instr.loadAt, Instr.sureAddr, loadVar, Sem.run_bind, run_agg hg, Result.andThen_ok, if_true, run_size hs, loadCells, Sem.run_pure] at h1 ⊢
                rw [h1]
                simp
              · cases h
          | false =>
            simp only at h
            rw [nth_eq] at h
            cases hv : l[off]? with
            | none => rw [hv] at h; cases h
            | some v' =>
              rw [hv] at h
              cases h
              obtain ⟨u', h1, h2⟩ := hl.get hv
              refine ⟨u', ?_, h2, rfl⟩
              simp only [Instr.loadAt, Instr.sureAddr, loadVar, Sem.run_bind, run_agg hg, Result.andThen_ok, Sem.run_pure, Bool.false_eq_true, if_false]
              exact run_load_at hb h1
  · rename_i ad
    obtain rfl : u = .pointer (some ad) := hx
    split at h
    · rename_i hg
      have key : ∀ c, w.cell? ad = some c → (Instr.loadAt t (.pointer (some ad))).run P w = .ok c w := fun c h1 => by
        simp [Instr.loadAt, Instr.sureAddr, loadVar, Sem.run_bind, run_agg hg, load, Sem.run, h1]
      have hrd := hM.kept.read
      unfold readExt at h
      split at h
      · obtain ⟨h1, h⟩ := R3.need_some h
        cases h
        exact ⟨_, key _ (hrd.s _ h1).1, rfl, rfl⟩
      · obtain ⟨h1, h⟩ := R3.need_some h
        cases h
        exact ⟨_, key _ (hrd.i _ _ h1).1, rfl, rfl⟩
      · obtain ⟨h1, h⟩ := R3.need_some h
        cases h
        exact ⟨_, key _ (hrd.b _ h1).1, rfl, rfl⟩
      · obtain ⟨h1, h⟩ := R3.need_some h
        cases h
        exact ⟨_, key _ (hrd.l _ h1).1, rfl, rfl⟩
      · cases h
    · rename_i hg
      have hrd := hM.kept.read
      unfold readAgg at h
      split at h
      · rename_i ds n _ hs
        split at h
        · rename_i hlen
          obtain ⟨l, h1, h2⟩ := R3.bind_some _ _ _ h
          cases h2
          have h3 := run_readCells (P := P) (ρ := ρ) hrd ad ds 0 l [] h1
          obtain ⟨us, h4, h5⟩ := h3
          refine ⟨.agg us.toArray, ?_, ⟨us, rfl, h5⟩, rfl⟩
          rw [hlen] at h4
          simp only [Instr.loadAt, Instr.sureAddr, loadVar, Sem.run_bind, run_agg hg, Result.andThen_ok, if_true, run_size hs, loadCells, Sem.run_pure]
          rw [h4]
          simp
        · cases h
      · cases h
    · cases h
  · cases h

theorem RL.lay {ρ : Nat → Option Nat} {l cs : List SV} {us vs : List Value} (h : SV.RL ρ l us) (hc : SV.RL ρ cs vs) (off : Nat) : SV.RL ρ (lay l off cs) (lay us off vs) := by
  unfold SX.lay
  rw [hc.length]
  exact ((h.take off).append hc).append (h.drop _)
theorem atom_R {x : SV} {u : Value} (hx : x.R ρ u) {cs : List SV} (h : x.cells = some cs) : SV.RL ρ cs u.cells.toList := by
  cases x with
  | agg l =>
    obtain ⟨us, rfl, h2⟩ := hx
    simp only [SV.cells, Option.some.injEq] at h
    subst h
    simpa [Value.cells] using h2
  | any => cases h
  | val v =>
    obtain rfl : u = v := hx
    cases u with
    | agg cs' =>
      simp only [SV.cells, Option.some.injEq] at h
      subst h
      simpa [Value.cells] using SV.RL.vals cs'.toList
    | _ =>
      simp only [SV.cells, Option.some.injEq] at h
      subst h
      exact ⟨_, _, rfl, rfl, rfl⟩
  | ptr i off =>
    simp only [SV.cells, Option.some.injEq] at h
    subst h
    obtain ⟨b, h1, rfl⟩ := hx
    exact ⟨_, _, rfl, ⟨b, h1, rfl⟩, rfl⟩
  | sl i off n c =>
    simp only [SV.cells, Option.some.injEq] at h
    subst h
    obtain ⟨b, h1, rfl⟩ := hx
    exact ⟨_, _, rfl, ⟨b, h1, rfl⟩, rfl⟩
  | mp i =>
    simp only [SV.cells, Option.some.injEq] at h
    subst h
    obtain ⟨b, h1, rfl⟩ := hx
    exact ⟨_, _, rfl, ⟨b, h1, rfl⟩, rfl⟩
  | tup l =>
    simp only [SV.cells, Option.some.injEq] at h
    subst h
    obtain ⟨us, rfl, h2⟩ := hx
    exact ⟨_, _, rfl, ⟨us, rfl, h2⟩, rfl⟩
  | clo fn l k =>
    simp only [SV.cells, Option.some.injEq] at h
    subst h
    obtain ⟨us, vs, rfl, h2, h3⟩ := hx
    exact ⟨_, _, rfl, ⟨us, vs, rfl, h2, h3⟩, rfl⟩

theorem atoms_R {ρ : Nat → Option Nat} : ∀ {cs : List SV} {us : List Value}, cs.all SV.atom = true → SV.RL ρ cs us → us.all atomic = true
  | [], _, _, h => by rw [SV.RL] at h; subst h; rfl
  | x :: cs, _, ha, ⟨u, us', h1, h2, h3⟩ => by
    rw [List.all_cons, Bool.and_eq_true] at ha
    subst h1
    rw [List.all_cons, Bool.and_eq_true]
    refine ⟨?_, atoms_R ha.2 h3⟩
    have hx := ha.1
    cases x with
    | val v => obtain rfl : u = v := h2; exact hx
    | any => cases hx
    | ptr i off => obtain ⟨_, _, rfl⟩ := h2; rfl
    | sl i off n c => obtain ⟨_, _, rfl⟩ := h2; rfl
    | mp i => obtain ⟨_, _, rfl⟩ := h2; rfl
    | agg l => cases hx
    | tup l => cases hx
    | clo fn l k => obtain ⟨_, _, rfl, _, _⟩ := h2; rfl
theorem lay_set (us : List Value) (k : Nat) (v : Value) (vs : List Value) (hk : k < us.length) : lay us k (v :: vs) = lay (us.set k v) (k + 1) vs := by
  unfold lay
  apply List.ext_getElem?
  intro j
  simp only [List.getElem?_append, List.length_append, List.length_take, List.length_set, List.length_cons, List.getElem?_take, List.getElem?_set, List.getElem?_drop]
  rcases Nat.lt_trichotomy j k with h | h | h
  · simp [h, Nat.min_eq_left (Nat.le_of_lt hk), Nat.ne_of_gt h, show j < k + 1 by omega, show j < min (k + 1) us.length by omega, show j < min (k + 1) us.length + vs.length by omega]
    omega
  · subst h
    simp [hk, Nat.min_eq_left (Nat.le_of_lt hk), Nat.min_eq_left (Nat.succ_le_of_lt hk)]
    omega
  · have e1 : min k us.length = k := by omega
    have e2 : min (k + 1) us.length = k + 1 := by omega
    rw [e1, e2]
    by_cases h2 : j < k + (vs.length + 1)
    · obtain ⟨d, rfl⟩ : ∃ d, j = k + 1 + d := ⟨j - k - 1, by omega⟩
      simp [show k + 1 + d < k + (vs.length + 1) by omega, show ¬ k + 1 + d < k by omega, show k + 1 + d < k + 1 + vs.length by omega, show k + 1 + d - k = d + 1 by omega, show ¬ (k + 1 + d < k + 1) by omega]
    · simp [h2, show ¬ j < k + 1 + vs.length by omega]
      rw [if_neg (by omega)]
      congr 1
      omega

theorem run_storeFrom {r off : Nat} {t : TypeId} : ∀ (vs : List Value) (i : Nat) (w : World) (us : List Value), w.heap[r]? = some (.cells us.toArray t (0, 0)) → off + i + vs.length ≤ us.length → vs.all atomic = true →
    (storeCells ⟨r, off, none⟩ vs i).run P w = .ok () { w with heap := w.heap.setIfInBounds r (.cells (lay us (off + i) vs).toArray t (0, 0)) }
  | [], i, w, us, hb, _, _ => by
    have : w.heap.setIfInBounds r (.cells (lay us (off + i) []).toArray t (0, 0)) = w.heap := by
      apply Array.ext_getElem?
      intro j
      rw [Array.getElem?_setIfInBounds]
      split
      · rename_i hj
        subst hj
        split
        · rw [hb]; simp [lay]
        · rename_i h; rw [Array.getElem?_eq_none (by omega)] at hb; cases hb
      · rfl
    rw [this]
    rfl
  | v :: vs, i, w, us, hb, hl, ha => by
    rw [List.all_cons, Bool.and_eq_true] at ha
    simp only [List.length_cons] at hl
    have hlt : off + i < us.length := by omega
    have hr : r < w.heap.size := by
      rcases Nat.lt_or_ge r w.heap.size with h | h
      · exact h
      · rw [Array.getElem?_eq_none h] at hb; cases hb
    have h1 : (store (Addr.add ⟨r, off, none⟩ i) v).run P w = .ok () { w with heap := w.heap.setIfInBounds r (.cells (us.set (off + i) v).toArray t (0, 0)) } := by
      rw [addr_add]
      have hset : w.setCell ⟨r, off + i, none⟩ v = { w with heap := w.heap.setIfInBounds r (.cells (us.set (off + i) v).toArray t (0, 0)) } := by
        unfold World.setCell
        congr 1
        apply Array.ext_getElem?
        intro j
        rw [Array.getElem?_modify, Array.getElem?_setIfInBounds]
        split
        · rename_i hj
          subst hj
          rw [hb]
          simp
        · rfl
      have hcell : w.cell? ⟨r, off + i, none⟩ = some us[off + i] := by simp [World.cell?, hb, hlt]
      have hfz : w.frozen? ⟨r, off + i, none⟩ = false := by simp [World.frozen?, hb]
      obtain ⟨ha1, _⟩ := ha
      cases v with
      | agg c => cases ha1
      | tuple c => cases ha1
      | _ => simp only [store, Sem.run, hcell, hfz, Bool.false_eq_true, if_false, hset]
    have h2 := run_storeFrom (r := r) (off := off) (t := t) vs (i + 1) { w with heap := w.heap.setIfInBounds r (.cells (us.set (off + i) v).toArray t (0, 0)) } (us.set (off + i) v) (by simp [hr]) (by simp; omega) ha.2
    simp only [storeCells, Sem.run_bind, h1, Result.andThen_ok, h2, Array.setIfInBounds_setIfInBounds]
    rw [lay_set us (off + i) v vs hlt, show off + (i + 1) = off + i + 1 by omega]


theorem stBlk_sound {t : TypeId} {i r off : Nat} {y : SV} {u2 : Value} {b b' : Blk} (hM : Mem E ρ m w) (hr : ρ i = some r) (hm : m[i]? = some b) (hy : y.R ρ u2) (h : stBlk P t off y b = some b') :
    ∃ w', (Instr.storeAt t (.pointer (some ⟨r, off, none⟩)) u2).run P w = .ok () w' ∧ Mem E ρ (m.set i b') w' := by
  unfold stBlk at h
  cases b with
  | dead => cases h
  | mp l => cases h
  | cells l ty wr =>
    obtain ⟨_, hb, us, rfl, hl⟩ := hM.get hm hr
    cases wr with
    | false => cases h
    | true =>
      cases hcs : y.cells with
      | none => rw [hcs] at h; cases h
      | some cs =>
        cases hs : tySize P t with
        | none => rw [hcs, hs] at h; cases h
        | some n =>
          rw [hcs, hs] at h
          simp only at h
          split at h
          · rename_i hc
            simp only [Bool.and_eq_true, decide_eq_true_eq] at hc
            obtain ⟨⟨hlen, hoff⟩, hat⟩ := hc
            cases h
            have hcr := atom_R hy hcs
            have hval : u2.cells.toList.all atomic = true := atoms_R hat hcr
            have h1 := run_storeFrom (P := P) (r := r) (off := off) u2.cells.toList 0 w us hb (by rw [hcr.length, hl.length]; simpa using hoff) hval
            have hsz : u2.cells.size = n := by
              have := hcr.length
              simp at this
              omega
            refine ⟨_, ?_, hM.write (b1 := .cells (lay l off cs) ty true) hm rfl hr ⟨_, rfl, RL.lay hl hcr off⟩ rfl⟩
            simp only [Instr.storeAt, Instr.sureAddr, storeVar, Sem.run_bind, Sem.run_pure, Result.andThen_ok, run_size hs, hsz, ne_eq, not_true_eq_false, if_false]
            exact h1
          · cases h
theorem store_sound {t : TypeId} {x y : SV} {u u2 : Value} (hM : Mem E ρ m w) (hx : x.R ρ u) (hy : y.R ρ u2) (h : (sxStore P t x y m).res = some (v, m')) :
    ∃ w', (Instr.storeAt t u u2).run P w = .ok () w' ∧ v = .val undef ∧ Mem E ρ m' w' := by
  unfold sxStore at h
  split at h
  · rename_i i off
    obtain ⟨r, hr, rfl⟩ := hx
    rw [nth_eq] at h
    split at h
    · rename_i b hm
      split at h
      · rename_i b' hb
        cases h
        obtain ⟨w', h1, h2⟩ := stBlk_sound (P := P) hM hr hm hy hb
        exact ⟨w', h1, rfl, h2⟩
      · cases h
    · cases h
  · cases h

end
end Go.SX

/-
  A symbolic executor: every operation is as the model does it.
-/
namespace Go.SX
set_option linter.unusedSimpArgs false
set_option linter.unusedVariables false
open Go.RowKit

section
variable {E : Env} {P : Program} {ρ : Nat → Option Nat} {m m' : List Blk} {w : World} {a : Act} {o : Oper} {ev : Operand → SV} {v : SV}

theorem RL.map_ops (he : ∀ x, (ev x).R ρ (a.eval x)) : ∀ l : List Operand, SV.RL ρ (l.map ev) (l.map a.eval)
  | [] => rfl
  | x :: l => ⟨_, _, rfl, he x, RL.map_ops he l⟩

theorem partV_run {t : TypeId} {cs : Array Value} {off : Nat} {v : Value} (h : partV P t cs off = some v) : (part t cs off).run P w = .ok v w := by
  unfold partV at h
  cases hg : tyAgg P t with
  | none => rw [hg] at h; cases h
  | some g =>
    rw [hg] at h
    cases g with
    | true =>
      simp only [Option.map_eq_some_iff] at h
      obtain ⟨n, hs, rfl⟩ := h
      simp [part, run_agg hg, run_size hs]
    | false =>
      simp only at h
      simp [part, run_agg hg, h]
theorem eqV_run : ∀ (n d : Nat) (t : TypeId) (x y : Value) (b : Bool), n ≤ d → eqV P n t x y = some b → (Op.equalIn d t x y).run P w = .ok b w
  | 0, _, _, _, _, _, _, h => by cases h
  | n + 1, 0, _, _, _, _, hd, _ => by omega
  | n + 1, d + 1, t, x, y, b, hd, h => by
    unfold eqV at h
    split at h
    · rename_i hu
      split at h
      · cases h; simp [Op.equalIn, run_type hu]
      · cases h
    · rename_i kd hu
      split at h
      · split at h
        · rename_i hk
          subst hk
          cases h
          simp [Op.equalIn, run_type hu]
        · cases h
      · cases h
    · rename_i hu
      split at h
      · cases h; simp [Op.equalIn, run_type hu]
      · cases h
    · rename_i fields hu
      split at h
      · rename_i xs ys
        split at h
        · cases h
        · rename_i hs
          have hs' : P.stoodInHeld t = false := by simpa using hs
          simp only [Op.equalIn, Sem.run_bind, run_type hu, Result.andThen_ok, program, Sem.run, hs', Bool.false_eq_true, if_false]
          rw [← Array.forIn_toList]
          generalize fields.toList = fs at h ⊢
          have key : ∀ (fs : List Field) (b : Bool), fs.foldr (fun f r => if f.name = "_" then none else match partV P f.type xs f.offset, partV P f.type ys f.offset, r with
              | some u, some v, some c => (eqV P n f.type u v).map (· && c)
              | _, _, _ => none) (some true) = some b →
              (forIn fs ((none : Option Bool), ()) fun f _ =>
                if f.name ≠ "_" then do
                  let u ← part f.type xs f.offset
                  let v ← part f.type ys f.offset
                  let r ← Op.equalIn d f.type u v
                  if (!r) = true then pure (ForInStep.done (some false, ())) else pure (ForInStep.yield (none, ()))
                else pure (ForInStep.yield (none, ())) : Sem (Option Bool × Unit)).run P w = .ok (if b then none else some false, ()) w := by
            intro fs
            induction fs with
            | nil => intro b h; cases h; simp
            | cons f fs ih =>
              intro b h
              simp only [List.foldr_cons] at h
              split at h
              · cases h
              · rename_i hf
                split at h
                · rename_i u v c hu' hv' hc
                  simp only [Option.map_eq_some_iff] at h
                  obtain ⟨e, he, rfl⟩ := h
                  have h1 := eqV_run n d f.type u v e (by omega) he
                  simp only [List.forIn_cons, ne_eq, hf, not_false_eq_true, if_true, Sem.run_bind, partV_run hu', partV_run hv', h1, Result.andThen_ok]
                  cases e
                  · simp
                  · have h9 := ih c hc
                    simp only [ne_eq] at h9
                    simp only [Bool.not_true, Bool.false_eq_true, if_false, Sem.run_pure, Result.andThen_ok, Bool.true_and]
                    exact h9
                · cases h
          have := key fs b h
          simp only [ne_eq] at this ⊢
          rw [this]
          cases b <;> simp
      · cases h
    · cases h
theorem check_plain {kt : TypeId} {kind : TypeDesc} (hk : P.underlying kt = some kind) (hp : keyKind kind = true) (e : Bool) (n : Nat) (v : Value) : (Instr.checkKey e (n + 1) kt v).run P w = .ok () w := by
  cases kind <;> simp only [keyKind] at hp <;> first | (cases hp; done) | simp [Instr.checkKey, run_type hk]
theorem find_sound (kind : TypeDesc) (k : Value) : ∀ (l : List (Value × SV)) (es : List MapEntry) (i : Nat) (r : Option SV), KL ρ l es → (sxFind kind k l).res = some r →
    ∃ r', Instr.findNow kind k es i = some r' ∧ (match r with | none => r' = none | some v => ∃ j u, r' = some (j, u) ∧ v.R ρ u)
  | [], es, i, r, hl, h => by
    rw [KL] at hl
    subst hl
    cases h
    exact ⟨none, rfl, rfl⟩
  | kv :: l, es, i, r, ⟨e, es', h1, h2, h3, h4⟩, h => by
    subst h1
    unfold sxFind at h
    split at h
    · rename_i b hb
      unfold Instr.findNow
      rw [h2, hb]
      cases b with
      | true =>
        have h' : some (some kv.2) = some r := h
        cases h'
        exact ⟨_, rfl, i, e.val, rfl, h3⟩
      | false => exact find_sound kind k l es' (i + 1) r h4 h
    · cases h
theorem byteL_R : ∀ {l : List SV} {ns : List Int} {us : List Value}, byteL l = some ns → SV.RL ρ l us → us = ns.map (Value.int .u8) ∧ ns.length = l.length := by
  intro l
  induction l with
  | nil =>
    intro ns us h hr
    cases h
    cases us with
    | nil => exact ⟨rfl, rfl⟩
    | cons _ _ => exact absurd hr (by simp [SV.RL])
  | cons x l ih =>
    intro ns us h hr
    unfold byteL at h
    split at h
    · rename_i e; cases e
    · rename_i n l' e
      cases e
      rw [Option.map_eq_some_iff] at h
      obtain ⟨ns', h1, rfl⟩ := h
      obtain ⟨u, us', rfl, h2, h3⟩ := hr
      obtain ⟨h4, h5⟩ := ih h1 h3
      have h2' : u = .int .u8 n := h2
      exact ⟨by rw [h2', h4]; rfl, by simp [h5]⟩
    · cases h
theorem strOf_foldl (ns : List Int) : ∀ s : ByteArray, ns.foldl (fun r n => r.push (UInt8.ofNat n.toNat)) s = ⟨s.data ++ (ns.map fun n => UInt8.ofNat n.toNat).toArray⟩ := by
  induction ns with
  | nil => intro s; simp
  | cons n ns ih =>
    intro s
    rw [List.foldl_cons, ih]
    apply congrArg ByteArray.mk
    rw [← Array.toList_inj]
    simp [ByteArray.push]
theorem conv_sound {src dst : TypeId} {i off n c : Nat} {u : Value} (hM : View E ρ m w) (hx : (SV.sl i off n c).R ρ u) (h : (sxConv P src dst i off n m).res = some (v, m')) :
    ∃ u', (convert src dst u).run P w = .ok u' w ∧ v.R ρ u' ∧ m' = m := by
  unfold sxConv at h
  split at h
  · rename_i e hs hd
    split at h
    · rename_i l ty g he hm
      split at h
      · rename_i ns hb
        split at h
        · rename_i hlen
          cases h
          obtain ⟨b, hr, rfl⟩ := hx
          rw [nth_eq] at hm
          obtain ⟨o', ho, hO⟩ := hM.get hm hr
          obtain ⟨us, rfl, hl⟩ := hO
          have hc : SV.RL ρ (cut l off n) (cut us off n) := (hl.drop off).take n
          obtain ⟨h1, h2⟩ := byteL_R hb hc
          have h3 := run_loadFrom (P := P) (off := off) ho n 0 [] (by rw [Nat.add_zero, hc.length, ← h2, hlen])
          refine ⟨_, ?_, rfl, rfl⟩
          rw [run_convert_bytes_string w src dst e _ _ _ hs he hd, run_bytesToString w ⟨b, off, none⟩ n c ns (by
            simp only [loadCells] at h3 ⊢
            rw [← h1]
            simpa using h3), strOf_foldl]
          simp [strOf]
        · cases h
      · cases h
    · cases h
  · cases h
theorem val_quiet (hn : isNew o.op = false) (hs : isStore o.op = false) (hM : View E ρ m w) (he : ∀ x, (ev x).R ρ (a.eval x)) (h : (sxVal P E.rd o ev m).res = some (v, m')) : Same ρ w ((execOp a.eval o).run P w) v m m' := by
  unfold sxVal at h
  cases hop : o.op <;> simp only [hop] at h
  case move x =>
    cases h
    exact Same.mk (by simp [execOp, hop]) (he x)
  case assign x =>
    cases h
    exact Same.mk (by simp [execOp, hop]) (he x)
  case pick c x y =>
    split at h
    · rename_i t hc
      have hcr := he c
      rw [hc] at hcr
      have hcr' : a.eval c = .bool t := hcr
      have run : (execOp a.eval o).run P w = .ok (.value (if t then a.eval x else a.eval y)) w := by
        simp [execOp, hop, hcr', asBool]
      unfold sxPick at h
      split at h
      · rename_i bx byy hx hy
        cases h
        have h1 := he x
        have h2 := he y
        rw [hx] at h1
        rw [hy] at h2
        have h1' : a.eval x = .bool bx := h1
        have h2' : a.eval y = .bool byy := h2
        rw [h1', h2'] at run
        refine Same.mk run ?_
        cases t <;> rfl
      · cases t
        · cases h
          exact Same.mk run (he y)
        · cases h
          exact Same.mk run (he x)
    · cases h
  case alloc t => rw [hop] at hn; cases hn
  case box t x => rw [hop] at hn; cases hn
  case load t x =>
    obtain ⟨u', h1, h2, rfl⟩ := load_sound (P := P) hM (he x) h
    exact Same.mk (by simp [execOp, hop, h1]) h2
  case store t x y => rw [hop] at hs; cases hs
  case nilCheck x =>
    split at h
    · rename_i i off hx
      cases h
      have h1 := he x
      rw [hx] at h1
      refine Same.mk (u := a.eval x) ?_ h1
      obtain ⟨b, _, h2⟩ := h1
      simp [execOp, hop, h2]
    · rename_i f l k hx
      cases h
      have h1 := he x
      rw [hx] at h1
      refine Same.mk (u := a.eval x) ?_ h1
      obtain ⟨us, vs, h2, _, _⟩ := h1
      simp [execOp, hop, h2]
    · exact pure_sound he h
  case fieldAddr t x f =>
    split at h
    · rename_i i off hx
      unfold sxFieldAddr at h
      split at h
      · rename_i fs hfs
        split at h
        · rename_i fd hfd
          split at h
          · rename_i sz hsz
            cases h
            have h1 := he x
            rw [hx] at h1
            obtain ⟨b, h2, h3⟩ := h1
            refine Same.mk (u := .pointer (some ⟨b, off + fd.offset, none⟩)) ?_ ⟨b, h2, rfl⟩
            simp [execOp, hop, Instr.fieldAt, run_type hfs, hfd, h3, Instr.sureAddr, fieldPlace, run_size hsz, addr_add]
          · cases h
        · cases h
      · cases h
    · exact pure_sound he h
  case makeFunc fn first caps =>
    split at h
    · exact pure_sound he h
    · cases h
      refine Same.mk (u := .func fn (first.map a.eval) (caps.map a.eval)) ?_ ?_
      · simp [execOp, hop, Instr.makeFunc]
      · exact ⟨first.toList.map a.eval, caps.toList.map a.eval, by simp [← Array.toList_map], RL.map_ops he _, RL.map_ops he _⟩
  case extract x ix =>
    split at h
    · rename_i l hx
      rw [nth_eq] at h
      split at h
      · rename_i v' hv
        cases h
        have h1 := he x
        rw [hx] at h1
        obtain ⟨us, h2, h3⟩ := h1
        obtain ⟨u, h4, h5⟩ := h3.get hv
        exact Same.mk (by simp [execOp, hop, Instr.extract, h2, h4]) h5
      · cases h
    · exact pure_sound he h
  case field t x f =>
    split at h
    · rename_i l hx
      have h1 := he x
      rw [hx] at h1
      obtain ⟨us, h2, h3⟩ := h1
      unfold sxField at h
      split at h
      · rename_i fs hfs
        split at h
        · rename_i fd hfd
          split at h
          · rename_i n hg hs
            cases h
            refine Same.mk (u := .agg (cut us fd.offset n).toArray) ?_ ⟨_, rfl, (h3.drop _).take _⟩
            simp [execOp, hop, Instr.field, run_type hfs, hfd, h2, asAgg, part, run_agg hg, run_size hs, cut, List.extract_eq_take_drop]
          · rename_i hg
            rw [nth_eq] at h
            split at h
            · rename_i v' hv
              cases h
              obtain ⟨u, h4, h5⟩ := h3.get hv
              exact Same.mk (by simp [execOp, hop, Instr.field, run_type hfs, hfd, h2, asAgg, part, run_agg hg, h4]) h5
            · cases h
          · cases h
        · cases h
      · cases h
    · exact pure_sound he h
  case index t x ix =>
    split at h
    · rename_i s k n ht hx hn
      obtain ⟨h1, h⟩ := R3.need_some h
      cases h
      unfold inB at h1
      simp only [Bool.and_eq_true, decide_eq_true_eq] at h1
      have h2 := he x
      have h3 := he ix
      rw [hx] at h2
      rw [hn] at h3
      have h2' : a.eval x = .string s := h2
      have h3' : a.eval ix = .int k n := h3
      refine Same.mk (u := .int .u8 (s.data.getD n.toNat 0).toNat) ?_ rfl
      have h4 : s[n.toNat]? = some (s.data.getD n.toNat 0) := by
        rw [getElem?_pos s n.toNat h1.2]
        have h9 : n.toNat < s.data.size := h1.2
        rw [ByteArray.getElem_eq_getElem_data, Array.getD, dif_pos h9]
        rfl
      simp [execOp, hop, Instr.index, h2', h3', asIntOf, run_type ht, h1.1, h4]
    · exact pure_sound he h
  case indexAddr t x ix =>
    split at h
    · rename_i k n hn
      have h3 := he ix
      rw [hn] at h3
      have h3' : a.eval ix = .int k n := h3
      unfold sxIndexAddr at h
      split at h
      · rename_i e i off len cp ht hx
        split at h
        · rename_i sz hsz
          obtain ⟨h1, h⟩ := R3.need_some h
          cases h
          unfold inB at h1
          simp only [Bool.and_eq_true, decide_eq_true_eq] at h1
          have h2 := he x
          rw [hx] at h2
          obtain ⟨b, h4, h5⟩ := h2
          refine Same.mk (u := .pointer (some ⟨b, off + n.toNat * sz, none⟩)) ?_ ⟨b, h4, rfl⟩
          have h6 : n < (len : Int) := by omega
          simp [execOp, hop, Instr.indexAt, h5, h3', asIntOf, run_type ht, h1.1, h6, run_size hsz, addr_add]
        · cases h
      · rename_i e ad len cp ht hx
        split at h
        · rename_i sz hsz
          obtain ⟨h1, h⟩ := R3.need_some h
          cases h
          unfold inB at h1
          simp only [Bool.and_eq_true, decide_eq_true_eq] at h1
          have h2 := he x
          rw [hx] at h2
          have h5 : a.eval x = .slice (some ad) len cp := h2
          refine Same.mk (u := .pointer (some (ad.add (n.toNat * sz)))) ?_ rfl
          have h6 : n < (len : Int) := by omega
          simp [execOp, hop, Instr.indexAt, h5, h3', asIntOf, run_type ht, h1.1, h6, run_size hsz]
        · cases h
      · rename_i len e i off ht hx
        split at h
        · rename_i sz hsz
          obtain ⟨h1, h⟩ := R3.need_some h
          cases h
          unfold inB at h1
          simp only [Bool.and_eq_true, decide_eq_true_eq] at h1
          have h2 := he x
          rw [hx] at h2
          obtain ⟨b, h4, h5⟩ := h2
          refine Same.mk (u := .pointer (some ⟨b, off + n.toNat * sz, none⟩)) ?_ ⟨b, h4, rfl⟩
          have h6 : n < (len : Int) := by omega
          simp [execOp, hop, Instr.indexAt, h5, h3', asIntOf, run_type ht, h1.1, h6, run_size hsz, addr_add, Instr.sureAddr]
        · cases h
      · cases h
    · cases h
  case binOp op t x y yt =>
    have dv : ∀ rem, (op = if rem then .rem else .quo) → (sxDiv rem (ev x) (ev y) m).res = some (v, m') → Same ρ w ((execOp a.eval o).run P w) v m m' := fun rem hr h => by
      unfold sxDiv at h
      split at h
      · rename_i k n k' n' hx hy
        obtain ⟨h1, h⟩ := R3.need_some h
        cases h
        simp only [Bool.and_eq_true, decide_eq_true_eq, Bool.not_eq_true', decide_eq_false_iff_not] at h1
        obtain ⟨rfl, h1⟩ := h1
        have h2 := he x
        have h3 := he y
        rw [hx] at h2
        rw [hy] at h3
        have h2' : a.eval x = .int k n := h2
        have h3' : a.eval y = .int k n' := h3
        cases rem
        · simp only [Bool.false_eq_true, if_false] at hr
          subst hr
          exact Same.mk (by simp [execOp, hop, h2', h3', eqGuard, binOp, Op.intDiv, h1]) rfl
        · simp only [if_true] at hr
          subst hr
          exact Same.mk (by simp [execOp, hop, h2', h3', eqGuard, binOp, Op.intDiv, h1]) rfl
      · cases h
    have eqq : ∀ neg, (op = if neg then .neq else .eql) → isStruct P t = true → (sxEq P neg t (ev x) (ev y) m).res = some (v, m') → Same ρ w ((execOp a.eval o).run P w) v m m' := fun neg hr ht h => by
      unfold sxEq at h
      split at h
      · rename_i xs ys hx hy
        split at h
        · cases h
        · rename_i hg
          split at h
          · rename_i b hb
            cases h
            have h2 : a.eval x = .agg xs := SV.plain_R _ _ _ hx (he x)
            have h3 : a.eval y = .agg ys := SV.plain_R _ _ _ hy (he y)
            have h4 := eqV_run (P := P) (w := w) 8 10000 t _ _ b (by omega) hb
            have hg' : P.eqGuardType P.depth t = false := by simpa using hg
            cases neg
            · simp only [Bool.false_eq_true, if_false] at hr
              subst hr
              refine Same.mk (u := .bool b) ?_ rfl
              simp [execOp, hop, h2, h3, eqGuard, hg', binOp, Op.equal, Op.maxDepth, h4, program, Sem.run]
            · simp only [if_true] at hr
              subst hr
              refine Same.mk (u := .bool !b) ?_ rfl
              simp [execOp, hop, h2, h3, eqGuard, hg', binOp, Op.equal, Op.maxDepth, h4, program, Sem.run]
          · cases h
      · cases h
    split at h
    · exact dv false rfl h
    · exact dv true rfl h
    · split at h
      · rename_i ht
        exact eqq false rfl ht h
      · exact pure_sound he h
    · split at h
      · rename_i ht
        exact eqq true rfl ht h
      · exact pure_sound he h
    · exact pure_sound he h
  case makeMap t r =>
    cases r with
    | none => rw [hop] at hn; cases hn
    | some x => exact pure_sound he h
  case insert t mp k x => rw [hop] at hs; cases hs
  case mapUpdate t mp k x => rw [hop] at hs; cases hs
  case lookup t x ix ok =>
    unfold sxLookup at h
    split at h
    · rename_i kt et i kv ht hx hk
      have h1 := he x
      have h2 := he ix
      rw [hx] at h1
      rw [hk] at h2
      obtain ⟨r, hr, h3⟩ := h1
      have h2' : a.eval ix = kv := h2
      rw [nth_eq] at h
      split at h
      · rename_i kind l hkt hm
        split at h
        · rename_i hkind
          obtain ⟨rr, h4, h5⟩ := R3.bind_some _ _ _ h
          obtain ⟨_, hb, es, c, rfl, hl⟩ := hM.get hm hr
          obtain ⟨r', h6, h7⟩ := find_sound kind kv l es 0 rr hl h4
          have hck : ∀ e, (Instr.checkKey e 10000 kt kv).run P w = .ok () w := fun e => check_plain hkt hkind e 9999 kv
          have hgo : (getObj r).run P w = .ok (.map es.toArray c) w := by simp [getObj, Sem.run, hb]
          have hfk : (Instr.findKey kt kv es).run P w = .ok r' w := by simp [Instr.findKey, run_type hkt, h6]
          split at h5
          · rename_i v0
            cases h5
            simp only at h7
            obtain ⟨j, u, h8, h9⟩ := h7
            subst h8
            cases ok
            · exact Same.mk (u := u) (by simp [execOp, hop, h3, h2', Instr.lookup, run_type ht, hgo, hck, hfk]) h9
            · exact Same.mk (u := .tuple #[u, .bool true]) (by simp [execOp, hop, h3, h2', Instr.lookup, run_type ht, hgo, hck, hfk]) ⟨[u, .bool true], rfl, u, _, rfl, h9, _, _, rfl, rfl, rfl⟩
          · simp only at h7
            subst h7
            split at h5
            · rename_i z hz
              cases h5
              cases ok
              · exact Same.mk (u := z) (by simp [execOp, hop, h3, h2', Instr.lookup, run_type ht, hgo, hck, hfk, run_zero hz]) rfl
              · exact Same.mk (u := .tuple #[z, .bool false]) (by simp [execOp, hop, h3, h2', Instr.lookup, run_type ht, hgo, hck, hfk, run_zero hz]) ⟨[z, .bool false], rfl, z, _, rfl, rfl, _, _, rfl, rfl, rfl⟩
            · cases h5
        · cases h
      · cases h
    · cases h
  case slice t x lo hi mx =>
    split at h
    · rename_i s ht hx
      have h2 := he x
      rw [hx] at h2
      have h2' : a.eval x = .string s := h2
      have hat : ∀ l k mx', (Instr.sliceAt t (.string s) l k mx').run P w = (Instr.slice t (.string s) l k mx').run P w := fun l k mx' => by
        simp [Instr.sliceAt, run_type ht]
      unfold sxSlice at h
      split at h
      · rename_i hl hh
        cases h
        simp only [Option.map_eq_none_iff] at hl hh
        subst hl; subst hh
        exact Same.mk (by simp [execOp, hop, h2', hat, Instr.slice, run_type ht, Instr.sliceBounds]) rfl
      · rename_i kl l hl hh
        obtain ⟨h1, h⟩ := R3.need_some h
        cases h
        simp only [Bool.and_eq_true, decide_eq_true_eq] at h1
        simp only [Option.map_eq_none_iff, Option.map_eq_some_iff] at hl hh
        obtain ⟨xl, rfl, hxl⟩ := hl
        subst hh
        have h3 := he xl
        rw [hxl] at h3
        have h3' : a.eval xl = .int kl l := h3
        have h6 : l ≤ (s.size : Int) := by omega
        exact Same.mk (by simp [execOp, hop, h2', h3', hat, Instr.slice, run_type ht, Instr.sliceBounds, Instr.sliceBound, asIntOf, h1.1, h6]) rfl
      · rename_i kl l hl hh
        obtain ⟨h1, h⟩ := R3.need_some h
        cases h
        simp only [Bool.and_eq_true, decide_eq_true_eq] at h1
        simp only [Option.map_eq_none_iff, Option.map_eq_some_iff] at hl hh
        obtain ⟨xl, rfl, hxl⟩ := hh
        subst hl
        have h3 := he xl
        rw [hxl] at h3
        have h3' : a.eval xl = .int kl l := h3
        have h6 : l ≤ (s.size : Int) := by omega
        exact Same.mk (by simp [execOp, hop, h2', h3', hat, Instr.slice, run_type ht, Instr.sliceBounds, Instr.sliceBound, asIntOf, h1.1, h6]) rfl
      · rename_i kl l kh hh0 hl hh
        obtain ⟨h1, h⟩ := R3.need_some h
        cases h
        simp only [Bool.and_eq_true, decide_eq_true_eq] at h1
        simp only [Option.map_eq_some_iff] at hl hh
        obtain ⟨xl, rfl, hxl⟩ := hl
        obtain ⟨xh, rfl, hxh⟩ := hh
        have h3 := he xl
        rw [hxl] at h3
        have h3' : a.eval xl = .int kl l := h3
        have h4 := he xh
        rw [hxh] at h4
        have h4' : a.eval xh = .int kh hh0 := h4
        have h6 : l ≤ hh0 := by omega
        have h7 : hh0 ≤ (s.size : Int) := by omega
        have h8 : l ≤ (hh0.toNat : Int) := by omega
        have h9 : l ≤ max hh0 0 := by omega
        exact Same.mk (by simp [execOp, hop, h2', h3', h4', hat, Instr.slice, run_type ht, Instr.sliceBounds, Instr.sliceBound, asIntOf, h1.1.1, h6, h7, h8, h9]) rfl
      · cases h
    · cases h
  case buildSlice t n parts => rw [hop] at hn; cases hn
  case convert src dst x =>
    split at h
    · rename_i i off n c hx
      have h1 := he x
      rw [hx] at h1
      obtain ⟨u', h2, h3, rfl⟩ := conv_sound (P := P) hM h1 h
      exact Same.mk (by simp [execOp, hop, h2]) h3
    · exact pure_sound he h
  case call c =>
    split at h
    · rename_i x hcal hargs
      cases hl : sxLen P c.argTypes[0]? (ev x) m with
      | none =>
        rw [hl] at h
        exact pure_sound he h
      | some r =>
        rw [hl] at h
        have h1 := he x
        have ha : c.args = #[x] := by
          rw [← Array.toList_inj]
          simpa using hargs
        unfold sxLen at hl
        split at hl
        · rename_i e i off n cp ht hx
          cases hl
          cases h
          obtain ⟨t0, ht0, ht1⟩ := Option.bind_eq_some_iff.1 ht
          rw [hx] at h1
          obtain ⟨b, _, h2⟩ := h1
          refine Same.mk (u := .int .i64 n) ?_ rfl
          simp [execOp, hop, resolve, hcal, ha, invoke, builtin, Builtin.len_, h2, goInt, ht0, run_type ht1]
        · rename_i e sa n cp ht hx
          cases hl
          cases h
          obtain ⟨t0, ht0, ht1⟩ := Option.bind_eq_some_iff.1 ht
          rw [hx] at h1
          have h2 : a.eval x = .slice sa n cp := h1
          refine Same.mk (u := .int .i64 n) ?_ rfl
          simp [execOp, hop, resolve, hcal, ha, invoke, builtin, Builtin.len_, h2, goInt, ht0, run_type ht1]
        · cases hl
    · exact pure_sound he h
    · cases h
  all_goals exact pure_sound he h

theorem fold_lay (v : List Value) : ∀ (off : Nat) (cells : List Value), off + v.length ≤ cells.length →
    (v.zipIdx.foldl (fun (cs : Array Value) (x : Value × Nat) => cs.setIfInBounds (off + x.2) x.1) cells.toArray) = (lay cells off v).toArray := by
  have gen : ∀ (v : List Value) (off k : Nat) (cells : List Value), off + k + v.length ≤ cells.length →
      ((v.zipIdx k).foldl (fun (cs : Array Value) (x : Value × Nat) => cs.setIfInBounds (off + x.2) x.1) cells.toArray) = (lay cells (off + k) v).toArray := by
    intro v
    induction v with
    | nil => intro off k cells _; simp [lay]
    | cons x v ih =>
      intro off k cells h
      simp only [List.length_cons] at h
      rw [List.zipIdx_cons, List.foldl_cons, List.setIfInBounds_toArray, ih off (k + 1) _ (by simp; omega), lay_set cells (off + k) x v (by omega), show off + (k + 1) = off + k + 1 by omega]
  intro off cells h
  exact gen v off 0 cells (by omega)
theorem fill_all (sz : Nat) : ∀ (vs : List Value) (k : Nat) (pre rest : List Value), (∀ v ∈ vs, v.cells.size = sz) → rest.length = vs.length * sz → pre.length = k * sz →
    Instr.fill (fun i => some (i * sz, sz)) (pre ++ rest).toArray ((List.range' k vs.length).zip vs) = some (pre ++ vs.flatMap fun v => v.cells.toList).toArray
  | [], k, pre, rest, _, hr, _ => by
    have : rest = [] := List.eq_nil_of_length_eq_zero (by simpa using hr)
    subst this
    simp [Instr.fill]
  | v :: vs, k, pre, rest, hv, hr, hp => by
    have hsz := hv v (by simp)
    have hvl : v.cells.toList.length = sz := by simpa using hsz
    have hrl : rest.length = sz + vs.length * sz := by rw [hr, List.length_cons, Nat.add_mul]; omega
    rw [List.length_cons, List.range'_succ, List.zip_cons_cons]
    unfold Instr.fill
    simp only
    rw [if_neg (by simp [hsz, hp]; omega)]
    have e1 : (v.cells.zipIdx.foldl (fun (cs : Array Value) (x : Value × Nat) => cs.setIfInBounds (k * sz + x.2) x.1) (pre ++ rest).toArray) = (lay (pre ++ rest) (k * sz) v.cells.toList).toArray := by
      rw [← fold_lay v.cells.toList (k * sz) (pre ++ rest) (by rw [List.length_append, hp]; omega), ← Array.foldl_toList, Array.toList_zipIdx]
    have e2 : lay (pre ++ rest) (k * sz) v.cells.toList = (pre ++ v.cells.toList) ++ rest.drop sz := by
      unfold lay
      rw [← hp, List.take_left, List.drop_append, hvl]
      simp
    have e3 := fill_all sz vs (k + 1) (pre ++ v.cells.toList) (rest.drop sz) (fun x hx => hv x (by simp [hx])) (by simp; omega) (by rw [List.length_append, hp, hvl, Nat.add_mul]; omega)
    show Instr.fill (fun i => some (i * sz, sz)) (v.cells.zipIdx.foldl (fun (cs : Array Value) (x : Value × Nat) => cs.setIfInBounds (k * sz + x.2) x.1) (pre ++ rest).toArray) _ = _
    rw [e1, e2, e3]
    simp
theorem allSome_R (he : ∀ x, (ev x).R ρ (a.eval x)) : ∀ (l : List Operand) (css : List (List SV)), allSome (l.map fun x => (ev x).cells) = some css → SV.RL ρ css.flatten ((l.map a.eval).flatMap fun v => v.cells.toList) ∧ css.length = l.length ∧
    ∀ sz, css.all (fun c => c.length == sz) = true → ∀ v ∈ l.map a.eval, v.cells.size = sz
  | [], css, h => by
    simp only [List.map_nil, allSome, Option.some.injEq] at h
    subst h
    exact ⟨rfl, rfl, fun _ _ v hv => by simp at hv⟩
  | x :: l, css, h => by
    simp only [List.map_cons] at h
    cases hx : (ev x).cells with
    | none => rw [hx] at h; simp [allSome] at h
    | some c =>
      rw [hx] at h
      simp only [allSome, Option.map_eq_some_iff] at h
      obtain ⟨css', h1, rfl⟩ := h
      obtain ⟨h2, h3, h4⟩ := allSome_R he l css' h1
      have h5 := atom_R (he x) hx
      refine ⟨by simpa using h5.append h2, by simp [h3], fun sz hall v hv => ?_⟩
      simp only [List.all_cons, Bool.and_eq_true, beq_iff_eq] at hall
      simp only [List.map_cons, List.mem_cons] at hv
      rcases hv with rfl | hv
      · have := h5.length
        simp at this
        omega
      · exact h4 sz hall.2 v hv
theorem val_sound (hM : Mem E ρ m w) (he : ∀ x, (ev x).R ρ (a.eval x)) (h : (sxVal P E.rd o ev m).res = some (v, m')) : Does E ρ ((execOp a.eval o).run P w) v m' := by
  by_cases hn : isNew o.op = false
  · by_cases hs : isStore o.op = false
    · exact (val_quiet hn hs hM.view he h).does hM
    · have ins : ∀ t mp k x, (execOp a.eval o = do Instr.mapUpdate t (a.eval mp) (a.eval k) (a.eval x); pure .skip) →
          (sxInsert P t (ev mp) (ev k) (ev x) m).res = some (v, m') → Does E ρ ((execOp a.eval o).run P w) v m' := by
        intro t mp k x hex h
        unfold sxInsert at h
        split at h
        · rename_i kt et i kv ht hmp hk
          have h1 := he mp
          have h2 := he k
          rw [hmp] at h1
          rw [hk] at h2
          obtain ⟨r, hr, h3⟩ := h1
          have h2' : a.eval k = kv := h2
          rw [nth_eq] at h
          split at h
          · rename_i kind l hkt hm
            split at h
            · rename_i hkind
              obtain ⟨rr, h4, h5⟩ := R3.bind_some _ _ _ h
              obtain ⟨_, hb, es, c, rfl, hl⟩ := hM.get hm hr
              obtain ⟨r', h6, h7⟩ := find_sound kind kv l es 0 rr hl h4
              cases rr with
              | some v0 => cases h5
              | none =>
                cases h5
                simp only at h7
                subst h7
                have hck : (Instr.checkKey false 10000 kt kv).run P w = .ok () w := check_plain hkt hkind false 9999 kv
                have hgo : (getObj r).run P w = .ok (.map es.toArray c) w := by simp [getObj, Sem.run, hb]
                have hfk : (Instr.findKey kt kv es).run P w = .ok none w := by simp [Instr.findKey, run_type hkt, h6]
                have hrlt := hM.lt i r hr
                have hso : (setObj r (.map (es ++ [({ key := kv, val := a.eval x, born := c } : MapEntry)]).toArray (c + 1))).run P w = .ok () { w with heap := w.heap.setIfInBounds r (.map (es ++ [({ key := kv, val := a.eval x, born := c } : MapEntry)]).toArray (c + 1)) } := by
                  simp [setObj, Sem.run, hb]
                have hKL : KL ρ (l ++ [(kv, ev x)]) (es ++ [{ key := kv, val := a.eval x, born := c }]) := by
                  have gen : ∀ (l : List (Value × SV)) (es : List MapEntry), KL ρ l es → KL ρ (l ++ [(kv, ev x)]) (es ++ [{ key := kv, val := a.eval x, born := c }]) := by
                    intro l
                    induction l with
                    | nil => intro es hl; rw [KL] at hl; subst hl; exact ⟨_, [], rfl, rfl, he x, rfl⟩
                    | cons y l ih => rintro es ⟨e, es', rfl, q1, q2, q3⟩; exact ⟨e, _, rfl, q1, q2, ih es' q3⟩
                  exact gen l es hl
                refine ⟨.skip, _, ρ, undef, ?_, .inr ⟨rfl, rfl⟩, rfl, hM.write (b1 := .mp (l ++ [(kv, ev x)])) (o1 := .map (es ++ [({ key := kv, val := a.eval x, born := c } : MapEntry)]).toArray (c + 1)) hm rfl hr ⟨_, _, rfl, hKL⟩ rfl, Le.refl _⟩
                rw [hex, h3, h2']
                simp [Instr.mapUpdate, run_type ht, hgo, hck, hfk, hso]
            · cases h
          · cases h
        · cases h
      unfold sxVal at h
      cases hop : o.op <;> simp only [hop, isStore, not_true_eq_false] at hs <;> simp only [hop] at h
      case store t x y =>
        obtain ⟨w', h1, rfl, h3⟩ := store_sound (P := P) hM (he x) (he y) h
        exact ⟨_, w', ρ, undef, by simp [execOp, hop, h1], .inr ⟨rfl, rfl⟩, rfl, h3, Le.refl _⟩
      case insert t mp k x => exact ins t mp k x (by simp [execOp, hop]) h
      case mapUpdate t mp k x => exact ins t mp k x (by simp [execOp, hop]) h
  · unfold sxVal at h
    cases hop : o.op <;> simp only [hop, isNew, not_true_eq_false] at hn <;> simp only [hop] at h
    case alloc t =>
      split at h
      · rename_i z hz
        cases h
        refine ⟨_, _, ext ρ m.length w.heap.size, .pointer (some ⟨w.heap.size, 0, none⟩), ?_, .inl rfl, ?_, hM.make ⟨_, rfl, SV.RL.vals z.cells.toList⟩, ext_le (hM.fresh (Nat.le_refl _))⟩
        · simp only [execOp, hop, Instr.alloc, Sem.run_bind, run_zero hz, Result.andThen_ok, newVar, newRow, newObj, Sem.run, Sem.run_pure]
        · exact ⟨w.heap.size, if_pos rfl, rfl⟩
      · cases h
    case box t x =>
      split at h
      · rename_i l hl
        cases h
        refine ⟨_, _, ext ρ m.length w.heap.size, .pointer (some ⟨w.heap.size, 0, none⟩), ?_, .inl rfl, ?_, hM.make ⟨_, rfl, atom_R (he x) hl⟩, ext_le (hM.fresh (Nat.le_refl _))⟩
        · simp only [execOp, hop, Instr.box, Sem.run_bind, Result.andThen_ok, newVar, newRow, newObj, Sem.run, Sem.run_pure]
        · exact ⟨w.heap.size, if_pos rfl, rfl⟩
      · cases h
  
    case makeMap t r =>
      cases r with
      | some x => simp at hn
      | none =>
        cases h
        refine ⟨_, _, ext ρ m.length w.heap.size, .map (some w.heap.size), ?_, .inl rfl, ?_, hM.make (b1 := .mp []) ⟨[], 0, rfl, rfl⟩, ext_le (hM.fresh (Nat.le_refl _))⟩
        · simp [execOp, hop, Instr.makeMap, newObj, Sem.run]
        · exact ⟨w.heap.size, if_pos rfl, rfl⟩
    case buildSlice t n parts =>
      unfold sxBuildSlice at h
      split at h
      · rename_i e css ht hcss
        split at h
        · rename_i sz hsz
          split at h
          · rename_i hc
            simp only [Bool.and_eq_true, decide_eq_true_eq] at hc
            obtain ⟨⟨⟨⟨⟨hall, hix⟩, hlen⟩, hbig⟩, hpos⟩, hz⟩ := hc
            cases h
            obtain ⟨z, hz⟩ := Option.isSome_iff_exists.1 hz
            have hparts : parts.toList.map (fun p => (ev p.2).cells) = (parts.toList.map (·.2)).map fun x => (ev x).cells := by simp [Function.comp_def]
            rw [hparts] at hcss
            obtain ⟨h1, h2, h3⟩ := allSome_R he _ _ hcss
            have hix' : parts.toList.map (·.1) = List.range n := by simpa using hix
            have hlen' : css.length = n := by simpa using hlen
            have hpl : (parts.toList.map (·.2)).length = n := by rw [← h2]; exact hlen'
            refine ⟨_, _, ext ρ m.length w.heap.size, .slice (some ⟨w.heap.size, 0, none⟩) n n, ?_, .inl rfl, ⟨w.heap.size, if_pos rfl, rfl⟩, hM.make ⟨_, rfl, h1⟩, ext_le (hM.fresh (Nat.le_refl _))⟩
            have hz2 : ¬ n * sz = 0 := by omega
            have hbig' : ¬ n * sz > 2 ^ 24 := by omega
            have hlist : (parts.map fun (i, x) => (i, a.eval x)).toList = (List.range' 0 ((parts.toList.map (·.2)).map a.eval).length).zip ((parts.toList.map (·.2)).map a.eval) := by
              rw [Array.toList_map, List.length_map, hpl, ← List.range_eq_range', ← hix']
              generalize parts.toList = ps
              induction ps with
              | nil => rfl
              | cons p ps ih => simp [ih]
            have hfill := fill_all sz ((parts.toList.map (·.2)).map a.eval) 0 [] ((Array.range (n * sz)).map (fun i => z.cells[i % z.cells.size]!)).toList (h3 sz hall) (by simp [← hpl]) (by simp)
            rw [← hlist] at hfill
            simp only [List.nil_append, Array.toArray_toList] at hfill
            simp only [execOp, hop, Instr.buildSlice, Sem.run_bind, run_type ht, Result.andThen_ok, run_size hsz, hbig', if_false, hz2, run_zero hz, Sem.run_pure, hfill, newRow, newObj, Sem.run]
          · cases h
        · cases h
      · cases h

end
end Go.SX

/-
  A symbolic executor: regions, code, functions.
-/
namespace Go.SX
set_option linter.unusedSimpArgs false
set_option linter.unusedVariables false
open Go.RowKit

/-- a deferred call -/
structure SD where
  f : FuncId
  caps : List SV
  args : List SV
structure St where
  t : List SV
  m : List Blk
  d : List SD
inductive OutE where
  | ret (v : SV)
  | pan (v : SV)
structure Out where
  e : OutE
  m : List Blk
inductive Ex where
  | normal
  | exit (id : Nat)
  | ret
  | panic (v : SV)

def St.put (s : St) (dst : Option Tmp) (v : SV) : St :=
  match dst with
  | some d => { s with t := s.t.set d v }
  | none => s
/-- to have a state's lists at hand before going on: the kernel's sums are lazy -/
def SV.f {γ : Type} (x : SV) (k : SV → γ) : γ :=
  match x with
  | .val v => k (.val v)
  | .any => k .any
  | .ptr i o => k (.ptr i o)
  | .sl i o n c => k (.sl i o n c)
  | .mp i => k (.mp i)
  | .agg l => k (.agg l)
  | .tup l => k (.tup l)
  | .clo f a b => k (.clo f a b)
theorem SV.f_eq {γ : Type} (x : SV) (k : SV → γ) : x.f k = k x := by cases x <;> rfl
def Blk.f {γ : Type} (x : Blk) (k : Blk → γ) : γ :=
  match x with
  | .dead => k .dead
  | .cells l t b => k (.cells l t b)
  | .mp l => k (.mp l)
theorem Blk.f_eq {γ : Type} (x : Blk) (k : Blk → γ) : x.f k = k x := by cases x <;> rfl
def lf {α γ : Type} (f : α → (α → γ) → γ) : List α → (List α → γ) → γ
  | [], k => k []
  | x :: l, k => f x fun x' => lf f l fun l' => k (x' :: l')
theorem lf_eq {α γ : Type} (f : α → (α → γ) → γ) (hf : ∀ x k, f x k = k x) : ∀ (l : List α) (k : List α → γ), lf f l k = k l
  | [], _ => rfl
  | x :: l, k => by
    show f x (fun x' => lf f l fun l' => k (x' :: l')) = _
    rw [hf, lf_eq f hf l]
def St.f {γ : Type} (s : St) (k : St → γ) : γ := lf SV.f s.t fun t => lf Blk.f s.m fun m => k { t := t, m := m, d := s.d }
theorem St.f_eq {γ : Type} (s : St) (k : St → γ) : s.f k = k s := by
  unfold St.f
  rw [lf_eq _ SV.f_eq, lf_eq _ Blk.f_eq]
def evalS (s : St) : Operand → SV
  | .tmp t => (nth s.t t).getD (.val undef)
  | .const v => .val v
  | .global g => .val (.pointer (some ⟨g, 0, none⟩))
  | .func f => .val (.func (.func f) #[] #[])

/-- the call of a Go function -/
def goCallee (x : SV) : Option (FuncId × List SV × List SV) :=
  match x with
  | .val (.func (.func f) first caps) => some (f, first.toList.map .val, caps.toList.map .val)
  | .clo (.func f) first caps => some (f, first, caps)
  | _ => none
def goCall (o : Oper) (ev : Operand → SV) : Option (FuncId × List SV) :=
  match o.op with
  | .call c => match c.callee with
    | .value f => match goCallee (ev f) with
      | some (g, first, caps) => some (g, first ++ c.args.toList.map ev ++ caps)
      | none => none
    | _ => none
  | _ => none
def goDefer (o : Oper) (ev : Operand → SV) : Option SD :=
  match o.op with
  | .defer c => match c.callee with
    | .value f => match goCallee (ev f) with
      | some (g, first, caps) => some ⟨g, caps, first ++ c.args.toList.map ev⟩
      | none => none
    | _ => none
  | _ => none
def goPanics (o : Oper) (ev : Operand → SV) : Option Value :=
  match o.op with
  | .panic x => match ev x with
    | .val (.iface t v) => some (.iface t v)
    | _ => none
  | .call c => match c.callee, c.args.toList with
    | .builtin .panic, [x] => match ev x with
      | .val (.iface t v) => some (.iface t v)
      | _ => none
    | _, _ => none
  | _ => none

/-- what a test has shown is written into the slot -/
def St.refine (s : St) (t : Option Tmp) (b : Bool) : St :=
  match t with
  | some t => { s with t := s.t.set t (.val (.bool b)) }
  | none => s
def gateT (ops : Array Oper) (j : Nat) : Option Tmp := (ops[j]?).bind (·.dst)
def condT : Operand → Option Tmp
  | .tmp t => some t
  | _ => none
/-- what a guard's operation has yielded -/
def gate (ops : Array Oper) (s : St) (j : Nat) : Option (Option Bool) :=
  match (ops[j]?).bind (·.dst) with
  | none => none
  | some t => match nth s.t t with
    | some (.val (.bool b)) => some (some b)
    | some (.val (.tuple _)) => some none
    | _ => none

def SD.R (ρ : Nat → Option Nat) (d : SD) (D : Deferred) : Prop :=
  ∃ cs az, D = { target := .fn (.func d.f) cs.toArray, args := az.toArray } ∧ SV.RL ρ d.caps cs ∧ SV.RL ρ d.args az
def DL (ρ : Nat → Option Nat) : List SD → List Deferred → Prop
  | [], D => D = []
  | d :: l, D => ∃ x r, D = x :: r ∧ d.R ρ x ∧ DL ρ l r
structure Rep (E : Env) (ρ : Nat → Option Nat) (s : St) (a : Act) (w : World) : Prop where
  t : ∃ us, a.tmps = us.toArray ∧ SV.RL ρ s.t us
  d : DL ρ s.d a.defers
  m : Mem E ρ s.m w

theorem SV.R.pre {ρ ρ' : Nat → Option Nat} (h : Le ρ ρ') {x : SV} {u : Value} (hh : x.R ρ u) : x.R ρ' u := SV.R.mono h x u hh
theorem SV.RL.pre {ρ ρ' : Nat → Option Nat} (h : Le ρ ρ') {x : List SV} {u : List Value} (hh : SV.RL ρ x u) : SV.RL ρ' x u := SV.RL.mono h x u hh
theorem DL.pre {ρ ρ' : Nat → Option Nat} (h : Le ρ ρ') : ∀ {l : List SD} {D : List Deferred}, DL ρ l D → DL ρ' l D
  | [], _, hh => hh
  | _ :: _, _, ⟨x, r, h1, ⟨cs, az, h2, h3, h4⟩, h5⟩ => ⟨x, r, h1, ⟨cs, az, h2, h3.pre h, h4.pre h⟩, DL.pre h h5⟩

section
variable {E : Env} {P : Program} {ρ ρ' : Nat → Option Nat} {s : St} {a : Act} {w w' : World} {v : SV} {u : Value}

theorem undef_R : (SV.val undef).R ρ undef := rfl
theorem Rep.eval (h : Rep E ρ s a w) (x : Operand) : (evalS s x).R ρ (a.eval x) := by
  cases x with
  | tmp t =>
    obtain ⟨us, h1, h2⟩ := h.t
    simp only [evalS, Act.eval, nth_eq, h1]
    cases ht : s.t[t]? with
    | none =>
      have hl : us.length ≤ t := by
        have := List.getElem?_eq_none_iff.1 ht
        rw [h2.length]; exact this
      have hnl : ¬ t < us.toArray.size := by simpa using hl
      rw [Array.getD, dif_neg hnl]
      rfl
    | some x =>
      obtain ⟨u, hu, hx⟩ := h2.get ht
      obtain ⟨hlt, hu'⟩ := List.getElem?_eq_some_iff.1 hu
      simp [Array.getD, hlt, hu', hx]
  | const v => rfl
  | global g => rfl
  | func f => rfl
theorem Rep.put {m' : List Blk} (h : Rep E ρ s a w) (hp : Le ρ ρ') (hv : v.R ρ' u) (hm : Mem E ρ' m' w') (dst : Option Tmp) : Rep E ρ' (St.put { s with m := m' } dst v) (a.put dst u) w' := by
  obtain ⟨us, h1, h2⟩ := h.t
  cases dst with
  | none => exact ⟨⟨us, h1, h2.pre hp⟩, h.d.pre hp, hm⟩
  | some d =>
    refine ⟨⟨us.set d u, ?_, (h2.pre hp).set d hv⟩, h.d.pre hp, hm⟩
    simp [Act.put, h1]
theorem Rep.mem {m' : List Blk} (h : Rep E ρ s a w) (hp : Le ρ ρ') (hm : Mem E ρ' m' w') : Rep E ρ' { s with m := m' } a w' := by
  obtain ⟨us, h1, h2⟩ := h.t
  exact ⟨⟨us, h1, h2.pre hp⟩, h.d.pre hp, hm⟩
theorem Rep.skip (h : Rep E ρ s a w) (dst : Option Tmp) : Rep E ρ (s.put dst (.val undef)) (a.put dst undef) w := by
  have := h.put (v := .val undef) (u := undef) (m' := s.m) (Le.refl _) rfl h.m dst
  exact this
theorem Rep.drawn (h : Rep E ρ s a w) (n : Nat) : Rep E ρ s a { w with drawn := n } := ⟨h.t, h.d, h.m.drawn n⟩

def OutOk (ρ : Nat → Option Nat) (o : Out) (R : Ending → World → Prop) (w : World) : Prop :=
  match o.e with
  | .ret v => ∀ u, v.R ρ u → R (.returned u) w
  | .pan v => ∀ u, v.R ρ u → R (.panicked [{ v := u, recovered := false }]) w
/-- calls of functions with a body are entered -/
def NamesOk (P : Program) : Prop := ∀ (f : FuncId) (fn : Func), P.funcs[f]? = some fn → fn.body.isSome = true → (fn.name == "runtime.NumGoroutine") = false

theorem RL.vals_map (ρ : Nat → Option Nat) (l : List Value) : SV.RL ρ (l.map .val) l := SV.RL.vals l
theorem callee_R {x : SV} {u : Value} {f : FuncId} {first caps : List SV} (hx : x.R ρ u) (h : goCallee x = some (f, first, caps)) :
    ∃ us vs, u = .func (.func f) us.toArray vs.toArray ∧ SV.RL ρ first us ∧ SV.RL ρ caps vs := by
  unfold goCallee at h
  split at h
  · cases h
    exact ⟨_, _, by rw [Array.toArray_toList, Array.toArray_toList]; exact hx, SV.RL.vals _, SV.RL.vals _⟩
  · cases h
    obtain ⟨us, vs, h1, h2, h3⟩ := hx
    exact ⟨us, vs, h1, h2, h3⟩
  · cases h
theorem call_run {o : Oper} {ev : Operand → SV} {f : FuncId} {args : List SV} (hN : NamesOk P) (he : ∀ x, (ev x).R ρ (a.eval x)) (h : goCall o ev = some (f, args)) (hb : ∃ fn, P.funcs[f]? = some fn ∧ fn.body.isSome = true) :
    ∃ us, (execOp a.eval o).run P w = .ok (.enter f us.toArray) w ∧ SV.RL ρ args us := by
  unfold goCall at h
  split at h
  · rename_i c hop
    split at h
    · rename_i x hc
      split at h
      · rename_i g first caps hg
        cases h
        obtain ⟨us, vs, h1, h2, h3⟩ := callee_R (he x) hg
        obtain ⟨fn, hf, hbb⟩ := hb
        refine ⟨us ++ c.args.toList.map a.eval ++ vs, ?_, (h2.append (RL.map_ops he _)).append h3⟩
        have hn := hN _ _ hf hbb
        have hn' : fn.body.isNone = false := by cases hx : fn.body <;> simp_all
        have hn2 : ¬ fn.name = "runtime.NumGoroutine" := by simpa using hn
        have hargs : (us.toArray ++ Array.map a.eval c.args ++ vs.toArray) = (us ++ c.args.toList.map a.eval ++ vs).toArray := by
          apply Array.toList_inj.1
          simp
        have hcf : ∀ args, (callFunc f args).run P w = .ok (.enter f args) w := fun args => by
          simp only [callFunc, program, Sem.run_bind, Sem.run, Result.andThen_ok, hf, hn, hn', Bool.false_eq_true, if_false, Sem.run_pure]
        simp only [execOp, hop, resolve, hc, h1, Deferred.ofValue, invoke, Sem.run_bind, Sem.run_pure, Result.andThen_ok, hcf, hargs]
      · cases h
    · cases h
  · cases h
theorem defer_run {o : Oper} {ev : Operand → SV} {d : SD} (he : ∀ x, (ev x).R ρ (a.eval x)) (h : goDefer o ev = some d) :
    ∃ D, (execOp a.eval o).run P w = .ok (.defer D) w ∧ d.R ρ D := by
  unfold goDefer at h
  split at h
  · rename_i c hop
    split at h
    · rename_i x hc
      split at h
      · rename_i g first caps hg
        cases h
        obtain ⟨us, vs, h1, h2, h3⟩ := callee_R (he x) hg
        refine ⟨{ target := .fn (.func g) vs.toArray, args := (us ++ c.args.toList.map a.eval).toArray }, ?_, ⟨_, _, rfl, h3, h2.append (RL.map_ops he _)⟩⟩
        have hargs : (us.toArray ++ Array.map a.eval c.args) = (us ++ c.args.toList.map a.eval).toArray := by
          apply Array.toList_inj.1
          simp
        simp only [execOp, hop, resolve, hc, h1, Deferred.ofValue, Sem.run_bind, Sem.run_pure, Result.andThen_ok, hargs]
      · cases h
    · cases h
  · cases h
theorem panics_run {o : Oper} {ev : Operand → SV} {pv : Value} (he : ∀ x, (ev x).R ρ (a.eval x)) (h : goPanics o ev = some pv) :
    (execOp a.eval o).run P w = .halt (.panic pv) w := by
  unfold goPanics at h
  split at h
  · rename_i x hop
    split at h
    · rename_i t v hx
      cases h
      have h1 := he x
      rw [hx] at h1
      have h2 : a.eval x = .iface t v := h1
      simp [execOp, hop, h2, Instr.panic, goPanic, Sem.run]
    · cases h
  · rename_i c hop
    split at h
    · rename_i x hc ha
      split at h
      · rename_i t v hx
        cases h
        have h1 := he x
        rw [hx] at h1
        have h2 : a.eval x = .iface t v := h1
        have ha' : c.args = #[x] := by
          rw [← Array.toList_inj]
          simpa using ha
        simp [execOp, hop, resolve, hc, ha', invoke, builtin, h2, Instr.panic, goPanic, Sem.run]
      · cases h
    · cases h
  · cases h

theorem gate_R {ops : Array Oper} {j : Nat} {b : Option Bool} (hr : Rep E ρ s a w) (h : gate ops s j = some b) : yielded ops a.tmps j = b := by
  unfold gate at h
  unfold yielded
  split at h
  · cases h
  · rename_i t ht
    rw [ht]
    obtain ⟨us, h1, h2⟩ := hr.t
    rw [nth_eq] at h
    split at h
    · rename_i b' hb
      cases h
      obtain ⟨u, hu, hx⟩ := h2.get hb
      have hx' : u = .bool b' := hx
      simp [h1, hu, hx']
    · rename_i vs hb
      cases h
      obtain ⟨u, hu, hx⟩ := h2.get hb
      have hx' : u = .tuple vs := hx
      simp [h1, hu, hx']
    · cases h


theorem refine_eq {s : St} {t : Tmp} {b : Bool} (h : nth s.t t = some (.val (.bool b))) : s.refine (some t) b = s := by
  have : s.t.set t (.val (.bool b)) = s.t := by
    rw [nth_eq] at h
    apply List.ext_getElem?
    intro j
    rw [List.getElem?_set]
    split
    · rename_i hj
      subst hj
      split
      · exact h.symm
      · rename_i hlt
        rw [List.getElem?_eq_none (by omega)]
    · rfl
  unfold St.refine
  simp only
  rw [this]
theorem gate_refine {ops : Array Oper} {s : St} {j : Nat} {b : Bool} (h : gate ops s j = some (some b)) : s.refine (gateT ops j) b = s := by
  unfold gate at h
  unfold gateT
  split at h
  · cases h
  · rename_i t ht
    rw [ht]
    split at h
    · rename_i b' hb
      cases h
      exact refine_eq hb
    · cases h
    · cases h
theorem cond_refine {s : St} {c : Operand} {b : Bool} (h : evalS s c = .val (.bool b)) : s.refine (condT c) b = s := by
  cases c with
  | tmp t =>
    unfold evalS at h
    simp only at h
    cases hn : nth s.t t with
    | none => rw [hn] at h; simp [undef] at h
    | some x => rw [hn] at h; simp at h; subst h; exact refine_eq hn
  | const v => rfl
  | global g => rfl
  | func f => rfl

/-- the surroundings of a run that begins now and writes nothing that was there -/
def Env.iso (rd : Rd) (w : World) (h : rd.Ok w fun _ => False) : Env := { w0 := w, S := fun _ => False, ρ0 := fun _ => none, rd := rd, ok := h }
theorem Mem.startIso {rd : Rd} {w : World} (h : rd.Ok w fun _ => False) : Mem (Env.iso rd w h) (fun _ => none) [] w :=
  ⟨fun i r h => (nomatch h), fun i b r _ h => (nomatch h), fun i r h => (nomatch h), fun i j r h => (nomatch h), fun i b r _ h => (nomatch h), ⟨rfl, rfl, rfl, Nat.le_refl _, fun _ _ _ => rfl⟩, Le.refl _, fun i r h => (nomatch h)⟩
theorem Mem.stopIso {rd : Rd} {w w' : World} {h : rd.Ok w fun _ => False} {ρ : Nat → Option Nat} {m : List Blk} (hm : Mem (Env.iso rd w h) ρ m w') : Below w.heap.size w w' :=
  ⟨hm.kept.os, hm.kept.tape, hm.kept.output, hm.kept.size, fun k hk => hm.kept.block k hk id⟩
end
mutual
/-- the blocks counted from 'k' on -/
def SV.shift (k : Nat) : SV → SV
  | .val v => .val v
  | .any => .any
  | .ptr i off => .ptr (k + i) off
  | .sl i off n c => .sl (k + i) off n c
  | .mp i => .mp (k + i)
  | .agg l => .agg (SV.shiftL k l)
  | .tup l => .tup (SV.shiftL k l)
  | .clo fn l c => .clo fn (SV.shiftL k l) (SV.shiftL k c)
def SV.shiftL (k : Nat) : List SV → List SV
  | [] => []
  | x :: l => x.shift k :: SV.shiftL k l
end
def Blk.shift (k : Nat) : Blk → Blk
  | .dead => .dead
  | .cells l t w => .cells (SV.shiftL k l) t w
  | .mp l => .mp (l.map fun kv => (kv.1, kv.2.shift k))
section
variable {E : Env} {P : Program} {rd : Rd} {ρ ρ' : Nat → Option Nat} {s : St} {a : Act} {w w' : World} {v : SV} {u : Value}
/-! ### calls of one's own blocks laid beside the caller's -/
/-- the numbers of two lots of blocks, one behind the other -/
def beside (ρ ρ1 : Nat → Option Nat) (k : Nat) : Nat → Option Nat := fun i => if i < k then ρ i else ρ1 (i - k)
mutual
theorem shift_R {ρ ρ1 : Nat → Option Nat} {k : Nat} : ∀ (x : SV) (u : Value), x.R ρ1 u → (x.shift k).R (beside ρ ρ1 k) u
  | .val _, _, h => h
  | .any, _, h => h
  | .ptr i off, u, ⟨b, h1, h2⟩ => ⟨b, by unfold beside; rw [if_neg (by omega), show k + i - k = i by omega]; exact h1, h2⟩
  | .sl i off n c, u, ⟨b, h1, h2⟩ => ⟨b, by unfold beside; rw [if_neg (by omega), show k + i - k = i by omega]; exact h1, h2⟩
  | .mp i, u, ⟨b, h1, h2⟩ => ⟨b, by unfold beside; rw [if_neg (by omega), show k + i - k = i by omega]; exact h1, h2⟩
  | .agg l, u, ⟨us, h1, h2⟩ => ⟨us, h1, shift_RL l us h2⟩
  | .tup l, u, ⟨us, h1, h2⟩ => ⟨us, h1, shift_RL l us h2⟩
  | .clo fn l c, u, ⟨us, vs, h1, h2, h3⟩ => ⟨us, vs, h1, shift_RL l us h2, shift_RL c vs h3⟩
theorem shift_RL {ρ ρ1 : Nat → Option Nat} {k : Nat} : ∀ (l : List SV) (us : List Value), SV.RL ρ1 l us → SV.RL (beside ρ ρ1 k) (SV.shiftL k l) us
  | [], _, h => h
  | x :: l, _, ⟨u, us', h1, h2, h3⟩ => ⟨u, us', h1, shift_R x u h2, shift_RL l us' h3⟩
end
theorem shift_O {ρ ρ1 : Nat → Option Nat} {k : Nat} {b : Blk} {o : Obj} (h : b.O ρ1 o) : (b.shift k).O (beside ρ ρ1 k) o := by
  cases b with
  | dead => trivial
  | cells l t wr => obtain ⟨us, h1, h2⟩ := h; exact ⟨us, h1, shift_RL l us h2⟩
  | mp l =>
    obtain ⟨es, c, h1, h2⟩ := h
    refine ⟨es, c, h1, ?_⟩
    have gen : ∀ (l : List (Value × SV)) (es : List MapEntry), KL ρ1 l es → KL (beside ρ ρ1 k) (l.map fun kv => (kv.1, kv.2.shift k)) es := by
      intro l
      induction l with
      | nil => intro es h; exact h
      | cons y l ih => rintro es ⟨e, es', h1, h2, h3, h4⟩; exact ⟨e, es', h1, h2, shift_R _ _ h3, ih es' h4⟩
    exact gen l es h2
theorem beside_le {ρ1 : Nat → Option Nat} {m : List Blk} (hm : Mem E ρ m w) : Le ρ (beside ρ ρ1 m.length) := fun i b hi => by
  unfold beside
  rw [if_pos (hm.dom i b hi)]
  exact hi
theorem Mem.beside {m m1 : List Blk} {ρ1 : Nat → Option Nat} {h : rd.Ok w fun _ => False} (hm : Mem E ρ m w) (h1 : Mem (Env.iso rd w h) ρ1 m1 w') :
    Mem E (beside ρ ρ1 m.length) (m ++ m1.map (Blk.shift m.length)) w' := by
  have hbel := h1.stopIso
  have hm' := hm.below hbel
  have fresh : ∀ i r : Nat, ρ1 i = some r → w.heap.size ≤ r := fun i r hi => (h1.new i r hi).elim (fun h => by cases h) id
  have splt : ∀ i r : Nat, SX.beside ρ ρ1 m.length i = some r → (i < m.length ∧ ρ i = some r) ∨ (m.length ≤ i ∧ ρ1 (i - m.length) = some r) := fun i r hi => by
    unfold SX.beside at hi
    split at hi
    · rename_i hlt; exact .inl ⟨hlt, hi⟩
    · rename_i hge; exact .inr ⟨by omega, hi⟩
  have getL : ∀ i : Nat, i < m.length → (m ++ m1.map (Blk.shift m.length))[i]? = m[i]? := fun i hi => List.getElem?_append_left hi
  have getR : ∀ i : Nat, m.length ≤ i → (m ++ m1.map (Blk.shift m.length))[i]? = (m1[i - m.length]?).map (Blk.shift m.length) := fun i hi => by
    rw [List.getElem?_append_right hi, List.getElem?_map]
  refine ⟨fun i r hi => ?_, fun i b r hb hi o ho => ?_, fun i r hi => ?_, fun i j r hi hj => ?_, fun i b r hb hi hlive => ?_, hm'.kept, hm.pre.trans (beside_le hm), fun i r hi => ?_⟩
  · rcases splt i r hi with ⟨h2, _⟩ | ⟨h2, h3⟩
    · simp; omega
    · have := h1.dom _ r h3
      simp; omega
  · rcases splt i r hi with ⟨h2, h3⟩ | ⟨h2, h3⟩
    · rw [getL i h2] at hb
      exact (hm'.ok i b r hb h3 o ho).mono (beside_le hm)
    · rw [getR i h2] at hb
      simp only [Option.map_eq_some_iff] at hb
      obtain ⟨b0, h4, rfl⟩ := hb
      exact shift_O (h1.ok _ b0 r h4 h3 o ho)
  · rcases splt i r hi with ⟨h2, h3⟩ | ⟨h2, h3⟩
    · exact hm'.lt i r h3
    · exact h1.lt _ r h3
  · rcases splt i r hi with ⟨h2, h3⟩ | ⟨h2, h3⟩ <;> rcases splt j r hj with ⟨h4, h5⟩ | ⟨h4, h5⟩
    · exact hm.inj i j r h3 h5
    · have := hm.lt i r h3; have := fresh _ r h5; omega
    · have := hm.lt j r h5; have := fresh _ r h3; omega
    · have := h1.inj _ _ r h3 h5; omega
  · rcases splt i r hi with ⟨h2, h3⟩ | ⟨h2, h3⟩
    · rw [getL i h2] at hb
      exact hm.own i b r hb h3 hlive
    · exact .inr (Nat.le_trans hm.kept.size (fresh _ r h3))
  · rcases splt i r hi with ⟨h2, h3⟩ | ⟨h2, h3⟩
    · exact hm.new i r h3 |>.imp (fun h => h) id
    · exact .inr (Nat.le_trans hm.kept.size (fresh _ r h3))

/-- the function has a body -/
def HasBody (P : Program) (f : FuncId) : Prop := ∃ fn, P.funcs[f]? = some fn ∧ fn.body.isSome = true
/-- a call whose arguments hold no block of ours comes to this, its blocks counted from nothing -/
def IRuns (rd : Rd) (P : Program) (f : FuncId) (vs : List Value) (o : Out) : Prop :=
  ∀ w R (h : rd.Ok w fun _ => False), (∀ ρ w', Mem (Env.iso rd w h) ρ o.m w' → OutOk ρ o R w') → Calls P f vs.toArray w R
abbrev ICall (β : Type) := FuncId → List Value → (Out → Option β) → Option β
def ICallOk (rd : Rd) (P : Program) {β : Type} (ic : ICall β) : Prop :=
  ∀ f vs kk (out : β), ic f vs kk = some out → HasBody P f ∧ ∃ o, kk o = some out ∧ IRuns rd P f vs o
/-- a call comes to this -/
def CRuns (rd : Rd) (P : Program) (f : FuncId) (args : List SV) (m : List Blk) (o : Out) : Prop :=
  ∀ E, E.rd = rd → ∀ ρ w us R, Mem E ρ m w → SV.RL ρ args us → (∀ ρ' w', Le ρ ρ' → Mem E ρ' o.m w' → OutOk ρ' o R w') → Calls P f us.toArray w R
abbrev CallK (β : Type) := FuncId → List SV → List Blk → (Out → Option β) → Option β
def CallOk (rd : Rd) (P : Program) {β : Type} (call : CallK β) : Prop :=
  ∀ f args m kk (out : β), call f args m kk = some out → HasBody P f ∧ ∃ o, kk o = some out ∧ CRuns rd P f args m o

end
end Go.SX

