/-
  A symbolic executor: regions, code, functions.
-/
import Derived.Test.YtieapjdabffjcaaSxD
import Derived.Tactics
import Derived.LoopN
namespace Go.SX
set_option linter.unusedSimpArgs false
set_option linter.unusedVariables false
open Go.RowKit

/-- a deferred call -/
structure SD where
  f : FuncId
  caps : List SV
  args : List SV
structure St where
  t : List SV
  m : List Blk
  d : List SD
inductive OutE where
  | ret (v : SV)
  | pan (v : SV)
structure Out where
  e : OutE
  m : List Blk
inductive Ex where
  | normal
  | exit (id : Nat)
  | ret
  | panic (v : SV)

def St.put (s : St) (dst : Option Tmp) (v : SV) : St :=
  match dst with
  | some d => { s with t := s.t.set d v }
  | none => s
/-- to have a state's lists at hand before going on: the kernel's sums are lazy -/
def SV.f {γ : Type} (x : SV) (k : SV → γ) : γ :=
  match x with
  | .val v => k (.val v)
  | .any => k .any
  | .ptr i o => k (.ptr i o)
  | .sl i o n c => k (.sl i o n c)
  | .mp i => k (.mp i)
  | .agg l => k (.agg l)
  | .tup l => k (.tup l)
  | .clo f a b => k (.clo f a b)
theorem SV.f_eq {γ : Type} (x : SV) (k : SV → γ) : x.f k = k x := by cases x <;> rfl
def Blk.f {γ : Type} (x : Blk) (k : Blk → γ) : γ :=
  match x with
  | .dead => k .dead
  | .cells l t b => k (.cells l t b)
  | .mp l => k (.mp l)
theorem Blk.f_eq {γ : Type} (x : Blk) (k : Blk → γ) : x.f k = k x := by cases x <;> rfl
def lf {α γ : Type} (f : α → (α → γ) → γ) : List α → (List α → γ) → γ
  | [], k => k []
  | x :: l, k => f x fun x' => lf f l fun l' => k (x' :: l')
theorem lf_eq {α γ : Type} (f : α → (α → γ) → γ) (hf : ∀ x k, f x k = k x) : ∀ (l : List α) (k : List α → γ), lf f l k = k l
  | [], _ => rfl
  | x :: l, k => by
    show f x (fun x' => lf f l fun l' => k (x' :: l')) = _
    rw [hf, lf_eq f hf l]
def St.f {γ : Type} (s : St) (k : St → γ) : γ := lf SV.f s.t fun t => lf Blk.f s.m fun m => k { t := t, m := m, d := s.d }
theorem St.f_eq {γ : Type} (s : St) (k : St → γ) : s.f k = k s := by
  unfold St.f
  rw [lf_eq _ SV.f_eq, lf_eq _ Blk.f_eq]
def evalS (s : St) : Operand → SV
  | .tmp t => (nth s.t t).getD (.val undef)
  | .const v => .val v
  | .global g => .val (.pointer (some ⟨g, 0, none⟩))
  | .func f => .val (.func (.func f) #[] #[])

/-- the call of a Go function -/
def goCallee (x : SV) : Option (FuncId × List SV × List SV) :=
  match x with
  | .val (.func (.func f) first caps) => some (f, first.toList.map .val, caps.toList.map .val)
  | .clo (.func f) first caps => some (f, first, caps)
  | _ => none
def goCall (o : Oper) (ev : Operand → SV) : Option (FuncId × List SV) :=
  match o.op with
  | .call c => match c.callee with
    | .value f => match goCallee (ev f) with
      | some (g, first, caps) => some (g, first ++ c.args.toList.map ev ++ caps)
      | none => none
    | _ => none
  | _ => none
def goDefer (o : Oper) (ev : Operand → SV) : Option SD :=
  match o.op with
  | .defer c => match c.callee with
    | .value f => match goCallee (ev f) with
      | some (g, first, caps) => some ⟨g, caps, first ++ c.args.toList.map ev⟩
      | none => none
    | _ => none
  | _ => none
def goPanics (o : Oper) (ev : Operand → SV) : Option Value :=
  match o.op with
  | .panic x => match ev x with
    | .val (.iface t v) => some (.iface t v)
    | _ => none
  | .call c => match c.callee, c.args.toList with
    | .builtin .panic, [x] => match ev x with
      | .val (.iface t v) => some (.iface t v)
      | _ => none
    | _, _ => none
  | _ => none

/-- what a test has shown is written into the slot -/
def St.refine (s : St) (t : Option Tmp) (b : Bool) : St :=
  match t with
  | some t => { s with t := s.t.set t (.val (.bool b)) }
  | none => s
def gateT (ops : Array Oper) (j : Nat) : Option Tmp := (ops[j]?).bind (·.dst)
def condT : Operand → Option Tmp
  | .tmp t => some t
  | _ => none
/-- what a guard's operation has yielded -/
def gate (ops : Array Oper) (s : St) (j : Nat) : Option (Option Bool) :=
  match (ops[j]?).bind (·.dst) with
  | none => none
  | some t => match nth s.t t with
    | some (.val (.bool b)) => some (some b)
    | some (.val (.tuple _)) => some none
    | _ => none

def SD.R (ρ : Nat → Option Nat) (d : SD) (D : Deferred) : Prop :=
  ∃ cs as, D = { target := .fn (.func d.f) cs.toArray, args := as.toArray } ∧ SV.RL ρ d.caps cs ∧ SV.RL ρ d.args as
def DL (ρ : Nat → Option Nat) : List SD → List Deferred → Prop
  | [], D => D = []
  | d :: l, D => ∃ x r, D = x :: r ∧ d.R ρ x ∧ DL ρ l r
structure Rep (E : Env) (ρ : Nat → Option Nat) (s : St) (a : Act) (w : World) : Prop where
  t : ∃ us, a.tmps = us.toArray ∧ SV.RL ρ s.t us
  d : DL ρ s.d a.defers
  m : Mem E ρ s.m w

theorem SV.R.pre {ρ ρ' : Nat → Option Nat} (h : Le ρ ρ') {x : SV} {u : Value} (hh : x.R ρ u) : x.R ρ' u := SV.R.mono h x u hh
theorem SV.RL.pre {ρ ρ' : Nat → Option Nat} (h : Le ρ ρ') {x : List SV} {u : List Value} (hh : SV.RL ρ x u) : SV.RL ρ' x u := SV.RL.mono h x u hh
theorem DL.pre {ρ ρ' : Nat → Option Nat} (h : Le ρ ρ') : ∀ {l : List SD} {D : List Deferred}, DL ρ l D → DL ρ' l D
  | [], _, hh => hh
  | _ :: _, _, ⟨x, r, h1, ⟨cs, as, h2, h3, h4⟩, h5⟩ => ⟨x, r, h1, ⟨cs, as, h2, h3.pre h, h4.pre h⟩, DL.pre h h5⟩

section
variable {E : Env} {P : Program} {ρ ρ' : Nat → Option Nat} {s : St} {a : Act} {w w' : World} {v : SV} {u : Value}

theorem undef_R : (SV.val undef).R ρ undef := rfl
theorem Rep.eval (h : Rep E ρ s a w) (x : Operand) : (evalS s x).R ρ (a.eval x) := by
  cases x with
  | tmp t =>
    obtain ⟨us, h1, h2⟩ := h.t
    simp only [evalS, Act.eval, nth_eq, h1]
    cases ht : s.t[t]? with
    | none =>
      have hl : us.length ≤ t := by
        have := List.getElem?_eq_none_iff.1 ht
        rw [h2.length]; exact this
      have hnl : ¬ t < us.toArray.size := by simpa using hl
      rw [Array.getD, dif_neg hnl]
      rfl
    | some x =>
      obtain ⟨u, hu, hx⟩ := h2.get ht
      obtain ⟨hlt, hu'⟩ := List.getElem?_eq_some_iff.1 hu
      simp [Array.getD, hlt, hu', hx]
  | const v => rfl
  | global g => rfl
  | func f => rfl
theorem Rep.put {m' : List Blk} (h : Rep E ρ s a w) (hp : Le ρ ρ') (hv : v.R ρ' u) (hm : Mem E ρ' m' w') (dst : Option Tmp) : Rep E ρ' (St.put { s with m := m' } dst v) (a.put dst u) w' := by
  obtain ⟨us, h1, h2⟩ := h.t
  cases dst with
  | none => exact ⟨⟨us, h1, h2.pre hp⟩, h.d.pre hp, hm⟩
  | some d =>
    refine ⟨⟨us.set d u, ?_, (h2.pre hp).set d hv⟩, h.d.pre hp, hm⟩
    simp [Act.put, h1]
theorem Rep.mem {m' : List Blk} (h : Rep E ρ s a w) (hp : Le ρ ρ') (hm : Mem E ρ' m' w') : Rep E ρ' { s with m := m' } a w' := by
  obtain ⟨us, h1, h2⟩ := h.t
  exact ⟨⟨us, h1, h2.pre hp⟩, h.d.pre hp, hm⟩
theorem Rep.skip (h : Rep E ρ s a w) (dst : Option Tmp) : Rep E ρ (s.put dst (.val undef)) (a.put dst undef) w := by
  have := h.put (v := .val undef) (u := undef) (m' := s.m) (Le.refl _) rfl h.m dst
  exact this
theorem Rep.drawn (h : Rep E ρ s a w) (n : Nat) : Rep E ρ s a { w with drawn := n } := ⟨h.t, h.d, h.m.drawn n⟩

def OutOk (ρ : Nat → Option Nat) (o : Out) (R : Ending → World → Prop) (w : World) : Prop :=
  match o.e with
  | .ret v => ∀ u, v.R ρ u → R (.returned u) w
  | .pan v => ∀ u, v.R ρ u → R (.panicked [{ v := u, recovered := false }]) w
/-- calls of functions with a body are entered -/
def NamesOk (P : Program) : Prop := ∀ (f : FuncId) (fn : Func), P.funcs[f]? = some fn → fn.body.isSome = true → (fn.name == "runtime.NumGoroutine") = false

theorem RL.vals_map (ρ : Nat → Option Nat) (l : List Value) : SV.RL ρ (l.map .val) l := SV.RL.vals l
theorem callee_R {x : SV} {u : Value} {f : FuncId} {first caps : List SV} (hx : x.R ρ u) (h : goCallee x = some (f, first, caps)) :
    ∃ us vs, u = .func (.func f) us.toArray vs.toArray ∧ SV.RL ρ first us ∧ SV.RL ρ caps vs := by
  unfold goCallee at h
  split at h
  · cases h
    exact ⟨_, _, by rw [Array.toArray_toList, Array.toArray_toList]; exact hx, SV.RL.vals _, SV.RL.vals _⟩
  · cases h
    obtain ⟨us, vs, h1, h2, h3⟩ := hx
    exact ⟨us, vs, h1, h2, h3⟩
  · cases h
theorem call_run {o : Oper} {ev : Operand → SV} {f : FuncId} {args : List SV} (hN : NamesOk P) (he : ∀ x, (ev x).R ρ (a.eval x)) (h : goCall o ev = some (f, args)) (hb : ∃ fn, P.funcs[f]? = some fn ∧ fn.body.isSome = true) :
    ∃ us, (execOp a.eval o).run P w = .ok (.enter f us.toArray) w ∧ SV.RL ρ args us := by
  unfold goCall at h
  split at h
  · rename_i c hop
    split at h
    · rename_i x hc
      split at h
      · rename_i g first caps hg
        cases h
        obtain ⟨us, vs, h1, h2, h3⟩ := callee_R (he x) hg
        obtain ⟨fn, hf, hbb⟩ := hb
        refine ⟨us ++ c.args.toList.map a.eval ++ vs, ?_, (h2.append (RL.map_ops he _)).append h3⟩
        have hn := hN _ _ hf hbb
        have hn' : fn.body.isNone = false := by cases hx : fn.body <;> simp_all
        have hn2 : ¬ fn.name = "runtime.NumGoroutine" := by simpa using hn
        have hargs : (us.toArray ++ Array.map a.eval c.args ++ vs.toArray) = (us ++ c.args.toList.map a.eval ++ vs).toArray := by
          apply Array.toList_inj.1
          simp
        have hcf : ∀ args, (callFunc f args).run P w = .ok (.enter f args) w := fun args => by
          simp only [callFunc, program, Sem.run_bind, Sem.run, Result.andThen_ok, hf, hn, hn', Bool.false_eq_true, if_false, Sem.run_pure]
        simp only [execOp, hop, resolve, hc, h1, Deferred.ofValue, invoke, Sem.run_bind, Sem.run_pure, Result.andThen_ok, hcf, hargs]
      · cases h
    · cases h
  · cases h
theorem defer_run {o : Oper} {ev : Operand → SV} {d : SD} (he : ∀ x, (ev x).R ρ (a.eval x)) (h : goDefer o ev = some d) :
    ∃ D, (execOp a.eval o).run P w = .ok (.defer D) w ∧ d.R ρ D := by
  unfold goDefer at h
  split at h
  · rename_i c hop
    split at h
    · rename_i x hc
      split at h
      · rename_i g first caps hg
        cases h
        obtain ⟨us, vs, h1, h2, h3⟩ := callee_R (he x) hg
        refine ⟨{ target := .fn (.func g) vs.toArray, args := (us ++ c.args.toList.map a.eval).toArray }, ?_, ⟨_, _, rfl, h3, h2.append (RL.map_ops he _)⟩⟩
        have hargs : (us.toArray ++ Array.map a.eval c.args) = (us ++ c.args.toList.map a.eval).toArray := by
          apply Array.toList_inj.1
          simp
        simp only [execOp, hop, resolve, hc, h1, Deferred.ofValue, Sem.run_bind, Sem.run_pure, Result.andThen_ok, hargs]
      · cases h
    · cases h
  · cases h
theorem panics_run {o : Oper} {ev : Operand → SV} {pv : Value} (he : ∀ x, (ev x).R ρ (a.eval x)) (h : goPanics o ev = some pv) :
    (execOp a.eval o).run P w = .halt (.panic pv) w := by
  unfold goPanics at h
  split at h
  · rename_i x hop
    split at h
    · rename_i t v hx
      cases h
      have h1 := he x
      rw [hx] at h1
      have h2 : a.eval x = .iface t v := h1
      simp [execOp, hop, h2, Instr.panic, goPanic, Sem.run]
    · cases h
  · rename_i c hop
    split at h
    · rename_i x hc ha
      split at h
      · rename_i t v hx
        cases h
        have h1 := he x
        rw [hx] at h1
        have h2 : a.eval x = .iface t v := h1
        have ha' : c.args = #[x] := by
          rw [← Array.toList_inj]
          simpa using ha
        simp [execOp, hop, resolve, hc, ha', invoke, builtin, h2, Instr.panic, goPanic, Sem.run]
      · cases h
    · cases h
  · cases h

theorem gate_R {ops : Array Oper} {j : Nat} {b : Option Bool} (hr : Rep E ρ s a w) (h : gate ops s j = some b) : yielded ops a.tmps j = b := by
  unfold gate at h
  unfold yielded
  split at h
  · cases h
  · rename_i t ht
    rw [ht]
    obtain ⟨us, h1, h2⟩ := hr.t
    rw [nth_eq] at h
    split at h
    · rename_i b' hb
      cases h
      obtain ⟨u, hu, hx⟩ := h2.get hb
      have hx' : u = .bool b' := hx
      simp [h1, hu, hx']
    · rename_i vs hb
      cases h
      obtain ⟨u, hu, hx⟩ := h2.get hb
      have hx' : u = .tuple vs := hx
      simp [h1, hu, hx']
    · cases h


theorem refine_eq {s : St} {t : Tmp} {b : Bool} (h : nth s.t t = some (.val (.bool b))) : s.refine (some t) b = s := by
  have : s.t.set t (.val (.bool b)) = s.t := by
    rw [nth_eq] at h
    apply List.ext_getElem?
    intro j
    rw [List.getElem?_set]
    split
    · rename_i hj
      subst hj
      split
      · exact h.symm
      · rename_i hlt
        rw [List.getElem?_eq_none (by omega)]
    · rfl
  unfold St.refine
  simp only
  rw [this]
theorem gate_refine {ops : Array Oper} {s : St} {j : Nat} {b : Bool} (h : gate ops s j = some (some b)) : s.refine (gateT ops j) b = s := by
  unfold gate at h
  unfold gateT
  split at h
  · cases h
  · rename_i t ht
    rw [ht]
    split at h
    · rename_i b' hb
      cases h
      exact refine_eq hb
    · cases h
    · cases h
theorem cond_refine {s : St} {c : Operand} {b : Bool} (h : evalS s c = .val (.bool b)) : s.refine (condT c) b = s := by
  cases c with
  | tmp t =>
    unfold evalS at h
    simp only at h
    cases hn : nth s.t t with
    | none => rw [hn] at h; simp [undef] at h
    | some x => rw [hn] at h; simp at h; subst h; exact refine_eq hn
  | const v => rfl
  | global g => rfl
  | func f => rfl

/-- the surroundings of a run that begins now and writes nothing that was there -/
def Env.iso (rd : Rd) (w : World) (h : rd.Ok w fun _ => False) : Env := { w0 := w, S := fun _ => False, ρ0 := fun _ => none, rd := rd, ok := h }
theorem Mem.startIso {rd : Rd} {w : World} (h : rd.Ok w fun _ => False) : Mem (Env.iso rd w h) (fun _ => none) [] w :=
  ⟨fun i r h => (nomatch h), fun i b r _ h => (nomatch h), fun i r h => (nomatch h), fun i j r h => (nomatch h), fun i b r _ h => (nomatch h), ⟨rfl, rfl, rfl, Nat.le_refl _, fun _ _ _ => rfl⟩, Le.refl _, fun i r h => (nomatch h)⟩
theorem Mem.stopIso {rd : Rd} {w w' : World} {h : rd.Ok w fun _ => False} {ρ : Nat → Option Nat} {m : List Blk} (hm : Mem (Env.iso rd w h) ρ m w') : Below w.heap.size w w' :=
  ⟨hm.kept.os, hm.kept.tape, hm.kept.output, hm.kept.size, fun k hk => hm.kept.block k hk id⟩
end
mutual
/-- the blocks counted from 'k' on -/
def SV.shift (k : Nat) : SV → SV
  | .val v => .val v
  | .any => .any
  | .ptr i off => .ptr (k + i) off
  | .sl i off n c => .sl (k + i) off n c
  | .mp i => .mp (k + i)
  | .agg l => .agg (SV.shiftL k l)
  | .tup l => .tup (SV.shiftL k l)
  | .clo fn l c => .clo fn (SV.shiftL k l) (SV.shiftL k c)
def SV.shiftL (k : Nat) : List SV → List SV
  | [] => []
  | x :: l => x.shift k :: SV.shiftL k l
end
def Blk.shift (k : Nat) : Blk → Blk
  | .dead => .dead
  | .cells l t w => .cells (SV.shiftL k l) t w
  | .mp l => .mp (l.map fun kv => (kv.1, kv.2.shift k))
section
variable {E : Env} {P : Program} {rd : Rd} {ρ ρ' : Nat → Option Nat} {s : St} {a : Act} {w w' : World} {v : SV} {u : Value}
/-! ### calls of one's own blocks laid beside the caller's -/
/-- the numbers of two lots of blocks, one behind the other -/
def beside (ρ ρ1 : Nat → Option Nat) (k : Nat) : Nat → Option Nat := fun i => if i < k then ρ i else ρ1 (i - k)
mutual
theorem shift_R {ρ ρ1 : Nat → Option Nat} {k : Nat} : ∀ (x : SV) (u : Value), x.R ρ1 u → (x.shift k).R (beside ρ ρ1 k) u
  | .val _, _, h => h
  | .any, _, h => h
  | .ptr i off, u, ⟨b, h1, h2⟩ => ⟨b, by unfold beside; rw [if_neg (by omega), show k + i - k = i by omega]; exact h1, h2⟩
  | .sl i off n c, u, ⟨b, h1, h2⟩ => ⟨b, by unfold beside; rw [if_neg (by omega), show k + i - k = i by omega]; exact h1, h2⟩
  | .mp i, u, ⟨b, h1, h2⟩ => ⟨b, by unfold beside; rw [if_neg (by omega), show k + i - k = i by omega]; exact h1, h2⟩
  | .agg l, u, ⟨us, h1, h2⟩ => ⟨us, h1, shift_RL l us h2⟩
  | .tup l, u, ⟨us, h1, h2⟩ => ⟨us, h1, shift_RL l us h2⟩
  | .clo fn l c, u, ⟨us, vs, h1, h2, h3⟩ => ⟨us, vs, h1, shift_RL l us h2, shift_RL c vs h3⟩
theorem shift_RL {ρ ρ1 : Nat → Option Nat} {k : Nat} : ∀ (l : List SV) (us : List Value), SV.RL ρ1 l us → SV.RL (beside ρ ρ1 k) (SV.shiftL k l) us
  | [], _, h => h
  | x :: l, _, ⟨u, us', h1, h2, h3⟩ => ⟨u, us', h1, shift_R x u h2, shift_RL l us' h3⟩
end
theorem shift_O {ρ ρ1 : Nat → Option Nat} {k : Nat} {b : Blk} {o : Obj} (h : b.O ρ1 o) : (b.shift k).O (beside ρ ρ1 k) o := by
  cases b with
  | dead => trivial
  | cells l t wr => obtain ⟨us, h1, h2⟩ := h; exact ⟨us, h1, shift_RL l us h2⟩
  | mp l =>
    obtain ⟨es, c, h1, h2⟩ := h
    refine ⟨es, c, h1, ?_⟩
    have gen : ∀ (l : List (Value × SV)) (es : List MapEntry), KL ρ1 l es → KL (beside ρ ρ1 k) (l.map fun kv => (kv.1, kv.2.shift k)) es := by
      intro l
      induction l with
      | nil => intro es h; exact h
      | cons y l ih => rintro es ⟨e, es', h1, h2, h3, h4⟩; exact ⟨e, es', h1, h2, shift_R _ _ h3, ih es' h4⟩
    exact gen l es h2
theorem beside_le {ρ1 : Nat → Option Nat} {m : List Blk} (hm : Mem E ρ m w) : Le ρ (beside ρ ρ1 m.length) := fun i b hi => by
  unfold beside
  rw [if_pos (hm.dom i b hi)]
  exact hi
theorem Mem.beside {m m1 : List Blk} {ρ1 : Nat → Option Nat} {h : rd.Ok w fun _ => False} (hm : Mem E ρ m w) (h1 : Mem (Env.iso rd w h) ρ1 m1 w') :
    Mem E (beside ρ ρ1 m.length) (m ++ m1.map (Blk.shift m.length)) w' := by
  have hbel := h1.stopIso
  have hm' := hm.below hbel
  have fresh : ∀ i r : Nat, ρ1 i = some r → w.heap.size ≤ r := fun i r hi => (h1.new i r hi).elim (fun h => by cases h) id
  have splt : ∀ i r : Nat, SX.beside ρ ρ1 m.length i = some r → (i < m.length ∧ ρ i = some r) ∨ (m.length ≤ i ∧ ρ1 (i - m.length) = some r) := fun i r hi => by
    unfold SX.beside at hi
    split at hi
    · rename_i hlt; exact .inl ⟨hlt, hi⟩
    · rename_i hge; exact .inr ⟨by omega, hi⟩
  have getL : ∀ i : Nat, i < m.length → (m ++ m1.map (Blk.shift m.length))[i]? = m[i]? := fun i hi => List.getElem?_append_left hi
  have getR : ∀ i : Nat, m.length ≤ i → (m ++ m1.map (Blk.shift m.length))[i]? = (m1[i - m.length]?).map (Blk.shift m.length) := fun i hi => by
    rw [List.getElem?_append_right hi, List.getElem?_map]
  refine ⟨fun i r hi => ?_, fun i b r hb hi o ho => ?_, fun i r hi => ?_, fun i j r hi hj => ?_, fun i b r hb hi hlive => ?_, hm'.kept, hm.pre.trans (beside_le hm), fun i r hi => ?_⟩
  · rcases splt i r hi with ⟨h2, _⟩ | ⟨h2, h3⟩
    · simp; omega
    · have := h1.dom _ r h3
      simp; omega
  · rcases splt i r hi with ⟨h2, h3⟩ | ⟨h2, h3⟩
    · rw [getL i h2] at hb
      exact (hm'.ok i b r hb h3 o ho).mono (beside_le hm)
    · rw [getR i h2] at hb
      simp only [Option.map_eq_some_iff] at hb
      obtain ⟨b0, h4, rfl⟩ := hb
      exact shift_O (h1.ok _ b0 r h4 h3 o ho)
  · rcases splt i r hi with ⟨h2, h3⟩ | ⟨h2, h3⟩
    · exact hm'.lt i r h3
    · exact h1.lt _ r h3
  · rcases splt i r hi with ⟨h2, h3⟩ | ⟨h2, h3⟩ <;> rcases splt j r hj with ⟨h4, h5⟩ | ⟨h4, h5⟩
    · exact hm.inj i j r h3 h5
    · have := hm.lt i r h3; have := fresh _ r h5; omega
    · have := hm.lt j r h5; have := fresh _ r h3; omega
    · have := h1.inj _ _ r h3 h5; omega
  · rcases splt i r hi with ⟨h2, h3⟩ | ⟨h2, h3⟩
    · rw [getL i h2] at hb
      exact hm.own i b r hb h3 hlive
    · exact .inr (Nat.le_trans hm.kept.size (fresh _ r h3))
  · rcases splt i r hi with ⟨h2, h3⟩ | ⟨h2, h3⟩
    · exact hm.new i r h3 |>.imp (fun h => h) id
    · exact .inr (Nat.le_trans hm.kept.size (fresh _ r h3))

/-- the function has a body -/
def HasBody (P : Program) (f : FuncId) : Prop := ∃ fn, P.funcs[f]? = some fn ∧ fn.body.isSome = true
/-- a call whose arguments hold no block of ours comes to this, its blocks counted from nothing -/
def IRuns (rd : Rd) (P : Program) (f : FuncId) (vs : List Value) (o : Out) : Prop :=
  ∀ w R (h : rd.Ok w fun _ => False), (∀ ρ w', Mem (Env.iso rd w h) ρ o.m w' → OutOk ρ o R w') → Calls P f vs.toArray w R
abbrev ICall (β : Type) := FuncId → List Value → (Out → Option β) → Option β
def ICallOk (rd : Rd) (P : Program) {β : Type} (ic : ICall β) : Prop :=
  ∀ f vs kk (out : β), ic f vs kk = some out → HasBody P f ∧ ∃ o, kk o = some out ∧ IRuns rd P f vs o
/-- a call comes to this -/
def CRuns (rd : Rd) (P : Program) (f : FuncId) (args : List SV) (m : List Blk) (o : Out) : Prop :=
  ∀ E, E.rd = rd → ∀ ρ w us R, Mem E ρ m w → SV.RL ρ args us → (∀ ρ' w', Le ρ ρ' → Mem E ρ' o.m w' → OutOk ρ' o R w') → Calls P f us.toArray w R
abbrev CallK (β : Type) := FuncId → List SV → List Blk → (Out → Option β) → Option β
def CallOk (rd : Rd) (P : Program) {β : Type} (call : CallK β) : Prop :=
  ∀ f args m kk (out : β), call f args m kk = some out → HasBody P f ∧ ∃ o, kk o = some out ∧ CRuns rd P f args m o

end
end Go.SX
