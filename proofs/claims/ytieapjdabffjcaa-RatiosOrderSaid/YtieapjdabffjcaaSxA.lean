/-
  A symbolic executor over the model's code: values that know their own blocks, and the relation to the model's values.
-/
import Derived.Orders
import Derived.Defers
import Derived.Below
import Derived.Laws.Rows
import Derived.Laws.Tables
namespace Go.SX
open Go.RowKit

/-- a value: as it stands; or with pointers to numbered blocks -/
inductive SV where
  | val (v : Value)
  | any
  | ptr (i off : Nat)
  | sl (i off len cap : Nat)
  | mp (i : Nat)
  | agg (l : List SV)
  | tup (l : List SV)
  | clo (fn : Fn) (first caps : List SV)

mutual
def SV.R (ρ : Nat → Option Nat) : SV → Value → Prop
  | .val v, u => u = v
  | .any, _ => True
  | .ptr i off, u => ∃ b, ρ i = some b ∧ u = .pointer (some ⟨b, off, none⟩)
  | .sl i off n c, u => ∃ b, ρ i = some b ∧ u = .slice (some ⟨b, off, none⟩) n c
  | .mp i, u => ∃ b, ρ i = some b ∧ u = .map (some b)
  | .agg l, u => ∃ us, u = .agg us.toArray ∧ SV.RL ρ l us
  | .tup l, u => ∃ us, u = .tuple us.toArray ∧ SV.RL ρ l us
  | .clo fn l k, u => ∃ us vs, u = .func fn us.toArray vs.toArray ∧ SV.RL ρ l us ∧ SV.RL ρ k vs
def SV.RL (ρ : Nat → Option Nat) : List SV → List Value → Prop
  | [], us => us = []
  | x :: l, us => ∃ u us', us = u :: us' ∧ x.R ρ u ∧ SV.RL ρ l us'
end

mutual
theorem SV.R.mono {ρ ρ' : Nat → Option Nat} (h : ∀ i b : Nat, ρ i = some b → ρ' i = some b) : ∀ (x : SV) (u : Value), x.R ρ u → x.R ρ' u
  | .val _, _, hh => hh
  | .any, _, _ => trivial
  | .ptr _ _, _, ⟨b, h1, h2⟩ => ⟨b, h _ _ h1, h2⟩
  | .sl _ _ _ _, _, ⟨b, h1, h2⟩ => ⟨b, h _ _ h1, h2⟩
  | .mp _, _, ⟨b, h1, h2⟩ => ⟨b, h _ _ h1, h2⟩
  | .agg l, _, ⟨us, h1, h2⟩ => ⟨us, h1, SV.RL.mono h l us h2⟩
  | .tup l, _, ⟨us, h1, h2⟩ => ⟨us, h1, SV.RL.mono h l us h2⟩
  | .clo _ l k, _, ⟨us, vs, h1, h2, h3⟩ => ⟨us, vs, h1, SV.RL.mono h l us h2, SV.RL.mono h k vs h3⟩
theorem SV.RL.mono {ρ ρ' : Nat → Option Nat} (h : ∀ i b : Nat, ρ i = some b → ρ' i = some b) : ∀ (l : List SV) (us : List Value), SV.RL ρ l us → SV.RL ρ' l us
  | [], _, hh => hh
  | x :: l, _, ⟨u, us', h1, h2, h3⟩ => ⟨u, us', h1, SV.R.mono h x u h2, SV.RL.mono h l us' h3⟩
end

mutual
/-- as a value of the model, if it holds no block of ours -/
def SV.plain : SV → Option Value
  | .val v => some v
  | .agg l => (SV.plainL l).map fun us => .agg us.toArray
  | .tup l => (SV.plainL l).map fun us => .tuple us.toArray
  | .clo fn l k => match SV.plainL l, SV.plainL k with
    | some us, some vs => some (.func fn us.toArray vs.toArray)
    | _, _ => none
  | _ => none
def SV.plainL : List SV → Option (List Value)
  | [] => some []
  | x :: l => match x.plain, SV.plainL l with
    | some u, some us => some (u :: us)
    | _, _ => none
end

mutual
theorem SV.plain_R {ρ : Nat → Option Nat} : ∀ (x : SV) (v u : Value), x.plain = some v → x.R ρ u → u = v
  | .val _, v, u, h, hr => by
    simp only [SV.plain, Option.some.injEq] at h
    exact hr.trans h
  | .any, _, _, h, _ => by simp [SV.plain] at h
  | .ptr _ _, _, _, h, _ => by simp [SV.plain] at h
  | .sl _ _ _ _, _, _, h, _ => by simp [SV.plain] at h
  | .mp _, _, _, h, _ => by simp [SV.plain] at h
  | .agg l, v, u, h, ⟨us, h1, h2⟩ => by
    simp only [SV.plain, Option.map_eq_some_iff] at h
    obtain ⟨vs, h3, h4⟩ := h
    rw [h1, ← h4, SV.plainL_R l vs us h3 h2]
  | .tup l, v, u, h, ⟨us, h1, h2⟩ => by
    simp only [SV.plain, Option.map_eq_some_iff] at h
    obtain ⟨vs, h3, h4⟩ := h
    rw [h1, ← h4, SV.plainL_R l vs us h3 h2]
  | .clo fn l k, v, u, h, ⟨us, vs, h1, h2, h3⟩ => by
    simp only [SV.plain] at h
    split at h
    · rename_i us' vs' e1 e2
      cases h
      rw [h1, SV.plainL_R l us' us e1 h2, SV.plainL_R k vs' vs e2 h3]
    · cases h
theorem SV.plainL_R {ρ : Nat → Option Nat} : ∀ (l : List SV) (vs us : List Value), SV.plainL l = some vs → SV.RL ρ l us → us = vs
  | [], vs, us, h, hr => by
    simp only [SV.plainL, Option.some.injEq] at h
    subst h
    exact hr
  | x :: l, vs, us, h, ⟨u, us', h1, h2, h3⟩ => by
    simp only [SV.plainL] at h
    split at h
    · rename_i v vs' e1 e2
      cases h
      rw [h1, SV.plain_R x v u e1 h2, SV.plainL_R l vs' us' e2 h3]
    · cases h
end

theorem SV.RL.length {ρ : Nat → Option Nat} : ∀ {l : List SV} {us : List Value}, SV.RL ρ l us → us.length = l.length
  | [], _, h => by rw [SV.RL] at h; simp [h]
  | _ :: l, _, ⟨_, _, h1, _, h3⟩ => by simp [h1, SV.RL.length h3]
theorem SV.RL.get {ρ : Nat → Option Nat} : ∀ {l : List SV} {us : List Value} (_ : SV.RL ρ l us) {i : Nat} {x : SV}, l[i]? = some x → ∃ u, us[i]? = some u ∧ x.R ρ u
  | [], _, _, _, _, h => by simp at h
  | y :: l, _, ⟨u, us', h1, h2, h3⟩, 0, x, h => by
    simp at h
    subst h
    exact ⟨u, by simp [h1], h2⟩
  | y :: l, _, ⟨u, us', h1, h2, h3⟩, i + 1, x, h => by
    obtain ⟨v, hv, hx⟩ := SV.RL.get h3 (i := i) (x := x) (by simpa using h)
    exact ⟨v, by simpa [h1] using hv, hx⟩
theorem SV.RL.set {ρ : Nat → Option Nat} : ∀ {l : List SV} {us : List Value} (_ : SV.RL ρ l us) (i : Nat) {x : SV} {u : Value}, x.R ρ u → SV.RL ρ (l.set i x) (us.set i u)
  | [], _, h, _, _, _, _ => by rw [SV.RL] at h; subst h; simp [SV.RL]
  | y :: l, _, ⟨v, us', h1, h2, h3⟩, 0, x, u, h => by subst h1; exact ⟨u, us', rfl, h, h3⟩
  | y :: l, _, ⟨v, us', h1, h2, h3⟩, i + 1, x, u, h => by subst h1; exact ⟨v, us'.set i u, rfl, h2, SV.RL.set h3 i h⟩
theorem SV.RL.append {ρ : Nat → Option Nat} : ∀ {l k : List SV} {us vs : List Value}, SV.RL ρ l us → SV.RL ρ k vs → SV.RL ρ (l ++ k) (us ++ vs)
  | [], _, _, _, h, hk => by rw [SV.RL] at h; subst h; exact hk
  | x :: l, k, _, vs, ⟨u, us', h1, h2, h3⟩, hk => by subst h1; exact ⟨u, us' ++ vs, rfl, h2, SV.RL.append h3 hk⟩
theorem SV.RL.drop {ρ : Nat → Option Nat} : ∀ {l : List SV} {us : List Value} (_ : SV.RL ρ l us) (n : Nat), SV.RL ρ (l.drop n) (us.drop n)
  | _, _, h, 0 => by simpa using h
  | [], _, h, n + 1 => by rw [SV.RL] at h; subst h; simp [SV.RL]
  | x :: l, _, ⟨u, us', h1, _, h3⟩, n + 1 => by subst h1; simpa using SV.RL.drop h3 n
theorem SV.RL.take {ρ : Nat → Option Nat} : ∀ {l : List SV} {us : List Value} (_ : SV.RL ρ l us) (n : Nat), SV.RL ρ (l.take n) (us.take n)
  | _, _, _, 0 => by simp [SV.RL]
  | [], _, h, n + 1 => by rw [SV.RL] at h; subst h; simp [SV.RL]
  | x :: l, _, ⟨u, us', h1, h2, h3⟩, n + 1 => by subst h1; exact ⟨u, us'.take n, by simp, h2, SV.RL.take h3 n⟩
theorem SV.RL.replicate {ρ : Nat → Option Nat} (v : Value) : ∀ n, SV.RL ρ (List.replicate n (.val v)) (List.replicate n v)
  | 0 => by simp [SV.RL]
  | n + 1 => by
    rw [List.replicate_succ, List.replicate_succ]
    exact ⟨v, _, rfl, rfl, SV.RL.replicate v n⟩
theorem SV.RL.vals {ρ : Nat → Option Nat} : ∀ us : List Value, SV.RL ρ (us.map .val) us
  | [] => rfl
  | u :: us => ⟨u, us, rfl, rfl, SV.RL.vals us⟩

/-- a block of ours -/
inductive Blk where
  | dead
  | cells (l : List SV) (t : TypeId) (wr : Bool)
  | mp (l : List (Value × SV))
def KL (ρ : Nat → Option Nat) : List (Value × SV) → List MapEntry → Prop
  | [], es => es = []
  | kv :: l, es => ∃ e es', es = e :: es' ∧ e.key = kv.1 ∧ kv.2.R ρ e.val ∧ KL ρ l es'
theorem KL.mono {ρ ρ' : Nat → Option Nat} (h : ∀ i b : Nat, ρ i = some b → ρ' i = some b) : ∀ {l : List (Value × SV)} {es : List MapEntry}, KL ρ l es → KL ρ' l es
  | [], _, hh => hh
  | _ :: _, _, ⟨e, es', h1, h2, h3, h4⟩ => ⟨e, es', h1, h2, SV.R.mono h _ _ h3, KL.mono h h4⟩
/-- an object of the heap is as the block says -/
def Blk.O (ρ : Nat → Option Nat) : Blk → Obj → Prop
  | .dead, _ => True
  | .cells l t _, o => ∃ us, o = .cells us.toArray t (0, 0) ∧ SV.RL ρ l us
  | .mp l, o => ∃ es c, o = .map es.toArray c ∧ KL ρ l es
theorem Blk.O.mono {ρ ρ' : Nat → Option Nat} (h : ∀ i b : Nat, ρ i = some b → ρ' i = some b) {b : Blk} {o : Obj} (hh : b.O ρ o) : b.O ρ' o := by
  cases b with
  | dead => trivial
  | cells l t u => obtain ⟨us, h1, h2⟩ := hh; exact ⟨us, h1, SV.RL.mono h _ _ h2⟩
  | mp l => obtain ⟨es, c, h1, h2⟩ := hh; exact ⟨es, c, h1, KL.mono h h2⟩
def Blk.R (ρ : Nat → Option Nat) (w : World) (r : Nat) (b : Blk) : Prop := ∀ o, w.heap[r]? = some o → b.O ρ o
def Blk.live : Blk → Bool
  | .dead => false
  | .cells _ _ m => m
  | .mp _ => true

/-- what is known of memory that came in -/
structure Rd where
  okS : Addr → Bool
  s : Addr → ByteArray
  okI : IntKind → Addr → Bool
  i : IntKind → Addr → Int
  okB : Addr → Bool
  b : Addr → Bool
  okL : Addr → Bool
  l : Addr → Option Addr
  ln : Addr → Nat
  lc : Addr → Nat
/-- it is so in a world, but for some blocks -/
structure Rd.Ok (rd : Rd) (w : World) (S : Nat → Prop) : Prop where
  s : ∀ a, rd.okS a = true → w.cell? a = some (.string (rd.s a)) ∧ ¬ S a.block
  i : ∀ k a, rd.okI k a = true → w.cell? a = some (.int k (rd.i k a)) ∧ ¬ S a.block
  b : ∀ a, rd.okB a = true → w.cell? a = some (.bool (rd.b a)) ∧ ¬ S a.block
  l : ∀ a, rd.okL a = true → w.cell? a = some (.slice (rd.l a) (rd.ln a) (rd.lc a)) ∧ ¬ S a.block
/-- the run's surroundings: the world in which it began, the elder blocks that it may write, the blocks that came in -/
structure Env where
  w0 : World
  S : Nat → Prop
  ρ0 : Nat → Option Nat
  rd : Rd
  ok : rd.Ok w0 S
structure Kept (E : Env) (w : World) : Prop where
  os : w.os = E.w0.os
  tape : w.tape = E.w0.tape
  output : w.output = E.w0.output
  size : E.w0.heap.size ≤ w.heap.size
  block : ∀ k : Nat, k < E.w0.heap.size → ¬ E.S k → w.heap[k]? = E.w0.heap[k]?
theorem Kept.cell {E : Env} {w : World} (h : Kept E w) {a : Addr} {v : Value} (h1 : E.w0.cell? a = some v) (h2 : ¬ E.S a.block) : w.cell? a = some v := by
  have hlt : a.block < E.w0.heap.size := by
    rcases Nat.lt_or_ge a.block E.w0.heap.size with h3 | h3
    · exact h3
    · simp [World.cell?, Array.getElem?_eq_none h3] at h1
  rw [← h1]
  unfold World.cell?
  rw [h.block _ hlt h2]
theorem Kept.read {E : Env} {w : World} (h : Kept E w) : E.rd.Ok w (fun _ => False) :=
  ⟨fun a ha => ⟨h.cell (E.ok.s a ha).1 (E.ok.s a ha).2, id⟩, fun k a ha => ⟨h.cell (E.ok.i k a ha).1 (E.ok.i k a ha).2, id⟩, fun a ha => ⟨h.cell (E.ok.b a ha).1 (E.ok.b a ha).2, id⟩, fun a ha => ⟨h.cell (E.ok.l a ha).1 (E.ok.l a ha).2, id⟩⟩
/-- more blocks have a number -/
def Le (ρ ρ' : Nat → Option Nat) : Prop := ∀ i b : Nat, ρ i = some b → ρ' i = some b
theorem Le.refl (ρ : Nat → Option Nat) : Le ρ ρ := fun _ _ h => h
theorem Le.trans {a b c : Nat → Option Nat} (h : Le a b) (k : Le b c) : Le a c := fun i x hx => k i x (h i x hx)
structure Mem (E : Env) (ρ : Nat → Option Nat) (m : List Blk) (w : World) : Prop where
  dom : ∀ i r : Nat, ρ i = some r → i < m.length
  ok : ∀ (i : Nat) (b : Blk) (r : Nat), m[i]? = some b → ρ i = some r → b.R ρ w r
  lt : ∀ i r : Nat, ρ i = some r → r < w.heap.size
  inj : ∀ i j r : Nat, ρ i = some r → ρ j = some r → i = j
  own : ∀ (i : Nat) (b : Blk) (r : Nat), m[i]? = some b → ρ i = some r → b.live = true → E.S r ∨ E.w0.heap.size ≤ r
  kept : Kept E w
  pre : Le E.ρ0 ρ
  new : ∀ i r : Nat, ρ i = some r → E.ρ0 i = some r ∨ E.w0.heap.size ≤ r

theorem Mem.get {E : Env} {ρ : Nat → Option Nat} {m : List Blk} {w : World} (h : Mem E ρ m w) {i r : Nat} {b : Blk} (hm : m[i]? = some b) (hr : ρ i = some r) : ∃ o, w.heap[r]? = some o ∧ b.O ρ o :=
  ⟨w.heap[r]'(h.lt i r hr), Array.getElem?_eq_getElem _, h.ok i b r hm hr _ (Array.getElem?_eq_getElem _)⟩
/-- what an operation that only reads must know -/
structure View (E : Env) (ρ : Nat → Option Nat) (m : List Blk) (w : World) : Prop where
  obj : ∀ {i r : Nat} {b : Blk}, m[i]? = some b → ρ i = some r → b = .dead ∨ ∃ o, w.heap[r]? = some o ∧ b.O ρ o
  kept : Kept E w
theorem View.get {E : Env} {ρ : Nat → Option Nat} {m : List Blk} {w : World} (h : View E ρ m w) {i r : Nat} {b : Blk} (hm : m[i]? = some b) (hr : ρ i = some r) (hd : b ≠ .dead := by intro h; cases h) : ∃ o, w.heap[r]? = some o ∧ b.O ρ o :=
  (h.obj hm hr).resolve_left hd
theorem Mem.view {E : Env} {ρ : Nat → Option Nat} {m : List Blk} {w : World} (h : Mem E ρ m w) : View E ρ m w := ⟨fun hm hr => .inr (h.get hm hr), h.kept⟩
theorem Mem.drawn {E : Env} {ρ : Nat → Option Nat} {m : List Blk} {w : World} (h : Mem E ρ m w) (n : Nat) : Mem E ρ m { w with drawn := n } :=
  ⟨h.dom, fun i b r h1 h2 => h.ok i b r h1 h2, h.lt, h.inj, h.own, ⟨h.kept.os, h.kept.tape, h.kept.output, h.kept.size, h.kept.block⟩, h.pre, h.new⟩
/-- what a callee does that touches nothing of ours -/
theorem Mem.below {E : Env} {ρ : Nat → Option Nat} {m : List Blk} {w w' : World} (h : Mem E ρ m w) (hb : Below w.heap.size w w') : Mem E ρ m w' := by
  refine ⟨h.dom, fun i b r h1 h2 o ho => ?_, fun i r h1 => Nat.lt_of_lt_of_le (h.lt i r h1) hb.size, h.inj, h.own, ?_, h.pre, h.new⟩
  · exact h.ok i b r h1 h2 o ((hb.block r (h.lt i r h2)).symm.trans ho)
  · exact ⟨hb.os.trans h.kept.os, hb.tape.trans h.kept.tape, hb.output.trans h.kept.output, Nat.le_trans h.kept.size hb.size,
      fun k hk hS => (hb.block k (Nat.lt_of_lt_of_le hk h.kept.size)).trans (h.kept.block k hk hS)⟩

/-- one block more has a number -/
def ext (ρ : Nat → Option Nat) (n r : Nat) : Nat → Option Nat := fun i => if i = n then some r else ρ i
theorem ext_le {ρ : Nat → Option Nat} {n r : Nat} (h : ρ n = none) : Le ρ (ext ρ n r) := fun i b hi => by
  unfold ext
  split
  · rename_i e; subst e; rw [h] at hi; cases hi
  · exact hi
theorem ext_some {ρ : Nat → Option Nat} {n r i x : Nat} (h : ext ρ n r i = some x) : (i ≠ n ∧ ρ i = some x) ∨ (i = n ∧ x = r) := by
  unfold ext at h
  split at h
  · rename_i e; exact .inr ⟨e, (Option.some.inj h).symm⟩
  · rename_i e; exact .inl ⟨e, h⟩
/-- a new block at a place that has no number yet -/
theorem Mem.newAt {E : Env} {ρ : Nat → Option Nat} {m : List Blk} {w : World} (h : Mem E ρ m w) {b1 : Blk} {o1 : Obj} (hl : b1.O ρ o1) {n : Nat} (hn : ρ n = none) {m' : List Blk}
    (hlen : ∀ i, i < m.length → i < m'.length) (hm' : ∀ i b, i ≠ n → m'[i]? = some b → i < m.length → m[i]? = some b) (hmn : m'[n]? = some b1) :
    Mem E (ext ρ n w.heap.size) m' { w with heap := w.heap.push o1 } := by
  have mono := ext_le (r := w.heap.size) hn
  have old : ∀ k : Nat, k < w.heap.size → (w.heap.push o1)[k]? = w.heap[k]? := fun k hk => by
    rw [Array.getElem?_push]; simp; omega
  refine ⟨fun i r h1 => ?_, fun i b r h1 h2 o ho => ?_, fun i r h1 => ?_, fun i j r h1 h2 => ?_, fun i b r h1 h2 h3 => ?_, ?_, ?_, fun i r h1 => ?_⟩
  · rcases ext_some h1 with ⟨_, h2⟩ | ⟨hi, _⟩
    · exact hlen i (h.dom i r h2)
    · subst hi; exact (List.getElem?_eq_some_iff.1 hmn).1
  · rcases ext_some h2 with ⟨hne, h2'⟩ | ⟨hi, hr⟩
    · exact (h.ok i b r (hm' i b hne h1 (h.dom i r h2')) h2' o ((old r (h.lt i r h2')).symm.trans ho)).mono mono
    · subst hi; subst hr
      rw [hmn] at h1
      cases h1
      simp at ho
      subst ho
      exact hl.mono mono
  · rcases ext_some h1 with ⟨_, h2⟩ | ⟨_, hr⟩
    · have := h.lt i r h2; simp; omega
    · subst hr; simp
  · rcases ext_some h1 with ⟨_, h3⟩ | ⟨hi, hr⟩ <;> rcases ext_some h2 with ⟨_, h4⟩ | ⟨hj, hr'⟩
    · exact h.inj i j r h3 h4
    · have := h.lt i r h3; omega
    · have := h.lt j r h4; omega
    · omega
  · rcases ext_some h2 with ⟨hne, h2'⟩ | ⟨_, hr⟩
    · exact h.own i b r (hm' i b hne h1 (h.dom i r h2')) h2' h3
    · subst hr; exact .inr h.kept.size
  · refine ⟨h.kept.os, h.kept.tape, h.kept.output, by have := h.kept.size; simp; omega, fun k hk hS => ?_⟩
    rw [old k (Nat.lt_of_lt_of_le hk h.kept.size)]
    exact h.kept.block k hk hS
  · exact h.pre.trans mono
  · rcases ext_some h1 with ⟨_, h2⟩ | ⟨_, hr⟩
    · exact h.new i r h2
    · subst hr; exact .inr h.kept.size
theorem Mem.fresh {E : Env} {ρ : Nat → Option Nat} {m : List Blk} {w : World} (h : Mem E ρ m w) {n : Nat} (hn : m.length ≤ n) : ρ n = none := by
  cases hr : ρ n with
  | none => rfl
  | some r => have := h.dom n r hr; omega
/-- a new block -/
theorem Mem.make {E : Env} {ρ : Nat → Option Nat} {m : List Blk} {w : World} (h : Mem E ρ m w) {b1 : Blk} {o1 : Obj} (hl : b1.O ρ o1) :
    Mem E (ext ρ m.length w.heap.size) (m ++ [b1]) { w with heap := w.heap.push o1 } := by
  refine h.newAt hl (h.fresh (Nat.le_refl _)) (fun i hi => by simp; omega) (fun i b hne h1 hi => ?_) (by simp)
  rw [List.getElem?_append_left hi] at h1
  exact h1

/-- a block of ours written anew -/
theorem Mem.write {E : Env} {ρ : Nat → Option Nat} {m : List Blk} {w : World} (h : Mem E ρ m w) {i r : Nat} {b b1 : Blk} {o1 : Obj} (hm : m[i]? = some b) (hlive : b.live = true)
    (hr : ρ i = some r) (hl : b1.O ρ o1) {w' : World} (hw : w' = { w with heap := w.heap.setIfInBounds r o1 }) :
    Mem E ρ (m.set i b1) w' := by
  subst hw
  have other : ∀ k : Nat, k ≠ r → (w.heap.setIfInBounds r o1)[k]? = w.heap[k]? := fun k hk => by
    rw [Array.getElem?_setIfInBounds_ne (Ne.symm hk)]
  have hlt := h.lt i r hr
  refine ⟨fun j r' h1 => by simpa using h.dom j r' h1, fun j b' r' h1 h2 o ho => ?_, fun j r' h1 => by simpa using h.lt j r' h1, h.inj, fun j b' r' h1 h2 h3 => ?_, ?_, h.pre, h.new⟩
  · rw [List.getElem?_set] at h1
    split at h1
    · rename_i hij
      subst hij
      have : r' = r := Option.some.inj (h2.symm.trans hr)
      subst this
      split at h1
      · cases h1
        simp [hlt] at ho
        subst ho
        exact hl
      · cases h1
    · rename_i hij
      have hne : r' ≠ r := fun e => hij (h.inj i j r hr (e ▸ h2))
      exact h.ok j b' r' h1 h2 o ((other r' hne).symm.trans ho)
  · rw [List.getElem?_set] at h1
    split at h1
    · rename_i hij
      subst hij
      exact h.own i _ r' hm h2 hlive
    · exact h.own j b' r' h1 h2 h3
  · refine ⟨h.kept.os, h.kept.tape, h.kept.output, by simpa using h.kept.size, fun k hk hS => ?_⟩
    have hne : k ≠ r := by
      rintro rfl
      rcases h.own i _ k hm hr hlive with h1 | h1
      · exact hS h1
      · omega
    rw [other k hne]
    exact h.kept.block k hk hS

end Go.SX
