/-
  A symbolic executor: regions, code.
-/
import Derived.Test.YtieapjdabffjcaaSxT
import Derived.Recover
namespace Go.SX
open Go.RowKit

inductive Nx where
  | ok (s : St)
  | pan (v : SV) (s : St)
def addDead (n : Nat) (m : List Blk) : List Blk := m ++ List.replicate n .dead
def weakM : Rec → List Blk → List Blk
  | .ok r _, m => match r.eff with
    | .none => m
    | .one i _ => m.set i .dead
    | .app bs => m ++ List.replicate bs.length .dead
    | .all m' => List.replicate (m.length + m'.length) .dead
  | _, m => m
/-- what is known whatever has come of the region -/
def weak : List Oper → List Rec → St → St
  | o :: l, r :: rs, s => weak l rs { t := match tgtT o.dst r with | some x => s.t.set x .any | none => s.t, m := weakM r s.m, d := s.d }
  | _, _, s => s

section
variable (P : Program) (rd : Rd) {β : Type}
def sxOne (call : CallK β) (o : Oper) (s : St) (k : Nx → Option β) : Option β :=
  match goCall o (evalS s) with
  | some (f, args) => call f args s.m fun out => match out.e with
    | .ret v => k (.ok (St.put { s with m := out.m } o.dst v))
    | .pan v => k (.pan v { s with m := out.m })
  | none => match goDefer o (evalS s) with
    | some d => k (.ok (St.put { s with d := d :: s.d } o.dst (.val undef)))
    | none => match goPanics o (evalS s) with
      | some v => k (.pan (.val v) s)
      | none => (sxVal P rd o (evalS s) s.m).k fun r => k (.ok (St.put { s with m := r.2 } o.dst r.1))
def sxOps (call : CallK β) (ops : Array Oper) (k : Ex → St → Option β) : List Oper → St → Option β
  | [], s => k .normal s
  | o :: rest, s => s.f fun s =>
    let run := fun (s : St) => sxOne P rd call o s fun nx => match nx with
      | .ok s' => sxOps call ops k rest s'
      | .pan v s' => k (.panic v) s'
    match o.guard with
    | none => run s
    | some (j, want) => match gate ops s j with
      | some (some b) => match want with
        | true => bif b then run (s.refine (gateT ops j) true) else sxOps call ops k rest ((s.refine (gateT ops j) false).put o.dst (.val undef))
        | false => bif b then sxOps call ops k rest ((s.refine (gateT ops j) true).put o.dst (.val undef)) else run (s.refine (gateT ops j) false)
      | some none => sxOps call ops k rest (s.put o.dst (.val undef))
      | none => none
def sxDraw (ic : ICall β) (call : CallK β) (ops : Array Oper) (s : St) (k : Ex → St → Option β) : Option β :=
  let l := ops.toList
  let K := (l.filter fun o => isNew o.op).length
  let s0 : St := { s with m := addDead K s.m }
  preF (mkPre l) fun pre => if preB pre l 0 then
    sxLex P rd ic call ops (s.m.length + K) pre (fun recs bad s1 => if orderB ops pre l recs 0 && newB l recs then match bad with
      | none => k .normal s1
      | some (_, v, none) => k (.panic (.val v)) (weak l recs s0)
      | some (_, v, some m') => k (.panic (.val v)) { weak l recs s0 with m := m' }
      else none) l 0 s.m.length [] none s0
  else none
abbrev CodeK (β : Type) := Code → St → (Ex → St → Option β) → Option β
def sxLoop (rec : CodeK β) (c : Code) (k : Ex → St → Option β) (n : Nat) : St → Option β :=
  Nat.rec (fun _ => none) (fun _ ih s => rec c s fun e s' => match e with
    | .normal => ih s'
    | e => k e s') n
def sxStep (ic : ICall β) (call : CallK β) (rec : CodeK β) : CodeK β := fun c s k =>
  match c with
  | .skip => k .normal s
  | .region _ ops false => sxOps P rd call ops k ops.toList s
  | .region _ ops true => sxDraw P rd ic call ops s k
  | .seq a b => rec a s fun e s' => match e with
    | .normal => rec b s' k
    | e => k e s'
  | .cond c a b => match evalS s c with
    | .val (.bool t) => bif t then rec a (s.refine (condT c) true) k else rec b (s.refine (condT c) false) k
    | _ => none
  | .block id c => rec c s fun e s' => match e with
    | .exit j => if j = id then k .normal s' else k (.exit j) s'
    | e => k e s'
  | .loop c => sxLoop rec c k 64 s
  | .exit id => k (.exit id) s
  | .label _ => k .normal s
  | .ret => k .ret s
  | _ => none
end

section
variable {E : Env} {P : Program} {rd : Rd} {ρ ρ' : Nat → Option Nat} {s s' : St} {a : Act} {w w' : World} {v : SV} {u : Value} {β : Type} {out : β} {Q : Exit → Act → World → Prop}

/-- the program draws mixed orders, and its calls enter -/
structure POk (P : Program) : Prop where
  names : NamesOk P
  mixed : P.follows .mixedOrders = true
def ExQ (ρ : Nat → Option Nat) (Q : Exit → Act → World → Prop) (a : Act) (w : World) : Ex → Prop
  | .normal => Q .normal a w
  | .exit i => Q (.exit i) a w
  | .ret => Q .ret a w
  | .panic v => ∀ u, v.R ρ u → Q (.panic [{ v := u, recovered := false }]) a w
def ExPost (E : Env) (ρ : Nat → Option Nat) (e : Ex) (s' : St) (Q : Exit → Act → World → Prop) : Prop := ∀ ρ' a' w', Le ρ ρ' → Rep E ρ' s' a' w' → ExQ ρ' Q a' w' e
def Runs (P : Program) (rd : Rd) (c : Code) (s : St) (e : Ex) (s' : St) : Prop := ∀ E, E.rd = rd → ∀ ρ a w Q, Rep E ρ s a w → ExPost E ρ e s' Q → c.wp P Q a w
def CodeOk (P : Program) (rd : Rd) (rec : CodeK β) : Prop := ∀ c s k (out : β), rec c s k = some out → ∃ e s', k e s' = some out ∧ Runs P rd c s e s'
theorem ExPost.le {e : Ex} (h : ExPost E ρ e s Q) (hl : Le ρ ρ') : ExPost E ρ' e s Q := fun ρ2 a w hl2 hr => h ρ2 a w (hl.trans hl2) hr

def NxPost (E : Env) (ρ : Nat → Option Nat) (K : Act → World → Prop) (Q : Exit → Act → World → Prop) : Nx → Prop
  | .ok s' => ∀ ρ' a' w', Le ρ ρ' → Rep E ρ' s' a' w' → K a' w'
  | .pan v s' => ∀ ρ' a' w', Le ρ ρ' → Rep E ρ' s' a' w' → ∀ u, v.R ρ' u → Q (.panic [{ v := u, recovered := false }]) a' w'
theorem one_sound {call : CallK β} (hcall : CallOk rd P call) (hN : NamesOk P) {o : Oper} {k : Nx → Option β} (h : sxOne P rd call o s k = some out) :
    ∃ nx, k nx = some out ∧ ∀ E, E.rd = rd → ∀ ρ a w K Q, Rep E ρ s a w → NxPost E ρ K Q nx → o.wp P a w K Q := by
  unfold sxOne at h
  split at h
  · rename_i f args hg
    obtain ⟨hb, o2, h3, hc⟩ := hcall _ _ _ _ _ h
    have main : ∀ nx, (∀ E ρ a w K Q, Rep E ρ s a w → NxPost E ρ K Q nx → ∀ ρ' w', Le ρ ρ' → Mem E ρ' o2.m w' → OutOk ρ' o2 (fun
            | .returned v, w'' => K (a.put o.dst v) w''
            | .panicked chain, w'' => Q (.panic chain) a w''
            | .outgrown, _ => LetsOut Q) w') → ∀ E, E.rd = rd → ∀ ρ a w K Q, Rep E ρ s a w → NxPost E ρ K Q nx → o.wp P a w K Q := by
      intro nx hnx E hE ρ a w K Q hr hpost
      obtain ⟨us, h1, h2⟩ := call_run (P := P) (w := w) hN hr.eval hg hb
      unfold Oper.wp
      rw [h1]
      exact hc E hE ρ w us _ hr.m h2 fun ρ' w' hl hm => hnx E ρ a w K Q hr hpost ρ' w' hl hm
    split at h3
    · rename_i v hv
      refine ⟨_, h3, main _ fun E ρ a w K Q hr hpost ρ' w' hl hm => ?_⟩
      unfold OutOk
      rw [hv]
      intro u hu
      exact hpost ρ' _ _ hl (hr.put hl hu hm _)
    · rename_i v hv
      refine ⟨_, h3, main _ fun E ρ a w K Q hr hpost ρ' w' hl hm => ?_⟩
      unfold OutOk
      rw [hv]
      intro u hu
      exact hpost ρ' _ _ hl (hr.mem hl hm) u hu
  · split at h
    · rename_i d hd
      refine ⟨_, h, fun E _ ρ a w K Q hr hpost => ?_⟩
      obtain ⟨D, h1, h2⟩ := defer_run (P := P) (w := w) hr.eval hd
      unfold Oper.wp
      rw [h1]
      have hr2 : Rep E ρ { s with d := d :: s.d } { a with defers := D :: a.defers } w := ⟨hr.t, ⟨D, _, rfl, h2, hr.d⟩, hr.m⟩
      exact hpost ρ _ _ (Le.refl _) (hr2.skip _)
    · split at h
      · rename_i pv hpv
        refine ⟨_, h, fun E _ ρ a w K Q hr hpost => ?_⟩
        unfold Oper.wp
        rw [panics_run (P := P) (w := w) hr.eval hpv]
        exact hpost ρ _ _ (Le.refl _) hr _ rfl
      · obtain ⟨⟨v, m'⟩, h1, h2⟩ := R3.k_some _ _ _ h
        refine ⟨_, h2, fun E hE ρ a w K Q hr hpost => ?_⟩
        subst hE
        obtain ⟨nx, w', ρ', u, h3, h4, h5, h6, h7⟩ := val_sound (P := P) hr.m hr.eval h1
        unfold Oper.wp
        rw [h3]
        have := hpost ρ' _ _ h7 (hr.put h7 h5 h6 o.dst)
        rcases h4 with rfl | ⟨rfl, rfl⟩
        · exact this
        · exact this

theorem ops_sound {call : CallK β} (hcall : CallOk rd P call) (hN : NamesOk P) {ops : Array Oper} {k : Ex → St → Option β} :
    ∀ (l : List Oper) (s : St), sxOps P rd call ops k l s = some out → ∃ e s', k e s' = some out ∧ ∀ E, E.rd = rd → ∀ ρ a w Q, Rep E ρ s a w → ExPost E ρ e s' Q → wpList P ops Q l a w
  | [], s, h => ⟨.normal, s, h, fun E _ ρ a w Q hr hpost => hpost ρ a w (Le.refl _) hr⟩
  | o :: l, s, h => by
    have ih := ops_sound hcall hN (ops := ops) (k := k) l
    unfold sxOps at h
    rw [St.f_eq] at h
    simp only at h
    have run : (sxOne P rd call o s fun nx => match nx with
      | .ok s' => sxOps P rd call ops k l s'
      | .pan v s' => k (.panic v) s') = some out → ∃ e s', k e s' = some out ∧ ∀ E, E.rd = rd → ∀ ρ a w Q, Rep E ρ s a w → ExPost E ρ e s' Q → o.wp P a w (wpList P ops Q l) Q := fun h => by
      obtain ⟨nx, h1, h2⟩ := one_sound hcall hN h
      cases nx with
      | ok s1 =>
        obtain ⟨e, s', h3, h4⟩ := ih s1 h1
        exact ⟨e, s', h3, fun E hE ρ a w Q hr hpost => h2 E hE ρ a w _ Q hr fun ρ' a' w' hl hr' => h4 E hE ρ' a' w' Q hr' (hpost.le hl)⟩
      | pan v s1 =>
        exact ⟨_, _, h1, fun E hE ρ a w Q hr hpost => h2 E hE ρ a w _ Q hr fun ρ' a' w' hl hr' => hpost ρ' a' w' hl hr'⟩
    have skip : sxOps P rd call ops k l (s.put o.dst (.val undef)) = some out → ∃ e s', k e s' = some out ∧ ∀ E, E.rd = rd → ∀ ρ a w Q, Rep E ρ s a w → ExPost E ρ e s' Q → wpList P ops Q l (a.put o.dst undef) w := fun h => by
      obtain ⟨e, s', h3, h4⟩ := ih _ h
      exact ⟨e, s', h3, fun E hE ρ a w Q hr hpost => h4 E hE ρ _ w Q (hr.skip _) hpost⟩
    split at h
    · rename_i hg
      obtain ⟨e, s', h1, h2⟩ := run h
      refine ⟨e, s', h1, fun E hE ρ a w Q hr hpost => ?_⟩
      unfold wpList
      rw [if_pos (by simp [Region.wanted, hg])]
      exact .inl (h2 E hE ρ a w Q hr hpost)
    · rename_i j want hg
      split at h
      · rename_i b hb
        have hrf := gate_refine hb
        have yes : b = want → (sxOne P rd call o s fun nx => match nx with
            | .ok s' => sxOps P rd call ops k l s'
            | .pan v s' => k (.panic v) s') = some out → ∃ e s', k e s' = some out ∧ ∀ E, E.rd = rd → ∀ ρ a w Q, Rep E ρ s a w → ExPost E ρ e s' Q → wpList P ops Q (o :: l) a w := fun hc h9 => by
          subst hc
          obtain ⟨e, s', h1, h2⟩ := run h9
          refine ⟨e, s', h1, fun E hE ρ a w Q hr hpost => ?_⟩
          have hy := gate_R hr hb
          unfold wpList
          rw [if_pos (by unfold Region.wanted; rw [hg]; simp only; rw [hy]; exact beq_self_eq_true _)]
          exact .inl (h2 E hE ρ a w Q hr hpost)
        have no : ¬ b = want → sxOps P rd call ops k l (s.put o.dst (.val undef)) = some out → ∃ e s', k e s' = some out ∧ ∀ E, E.rd = rd → ∀ ρ a w Q, Rep E ρ s a w → ExPost E ρ e s' Q → wpList P ops Q (o :: l) a w := fun hc h9 => by
          obtain ⟨e, s', h1, h2⟩ := skip h9
          refine ⟨e, s', h1, fun E hE ρ a w Q hr hpost => ?_⟩
          have hy := gate_R hr hb
          unfold wpList
          rw [if_neg (by unfold Region.wanted; rw [hg]; simp only; rw [hy]; intro h; exact hc (Option.some.inj (eq_of_beq h)))]
          exact h2 E hE ρ a w Q hr hpost
        cases want <;> cases b <;> simp only [cond_true, cond_false] at h <;> rw [hrf] at h
        · exact yes rfl h
        · exact no (by simp) h
        · exact no (by simp) h
        · exact yes rfl h
      · rename_i hb
        obtain ⟨e, s', h1, h2⟩ := skip h
        refine ⟨e, s', h1, fun E hE ρ a w Q hr hpost => ?_⟩
        have hy := gate_R hr hb
        unfold wpList
        rw [if_neg (by unfold Region.wanted; rw [hg]; simp only; rw [hy]; intro h; cases h)]
        exact h2 E hE ρ a w Q hr hpost
      · cases h

def Env.at (E : Env) (r : Nat → Option Nat) : Env := { E with ρ0 := r }
theorem Mem.at {m : List Blk} (h : Mem E ρ m w) : Mem (E.at ρ) ρ m w :=
  ⟨h.dom, h.ok, h.lt, h.inj, h.own, ⟨h.kept.os, h.kept.tape, h.kept.output, h.kept.size, h.kept.block⟩, Le.refl _, fun _ _ h => .inl h⟩
theorem Mem.back {m m0 : List Blk} {w0 : World} {r : Nat → Option Nat} (h : Mem (E.at r) ρ m w) (hp : Mem E r m0 w0) : Le r ρ ∧ Mem E ρ m w :=
  ⟨h.pre, ⟨h.dom, h.ok, h.lt, h.inj, h.own, ⟨h.kept.os, h.kept.tape, h.kept.output, h.kept.size, h.kept.block⟩, hp.pre.trans h.pre, fun i x hx => (h.new i x hx).elim (hp.new i x) .inr⟩⟩
theorem Mem.pad {m : List Blk} (h : Mem E ρ m w) (n : Nat) : Mem E ρ (addDead n m) w := by
  have key : ∀ (i : Nat) (b : Blk) (r : Nat), (addDead n m)[i]? = some b → ρ i = some r → m[i]? = some b := fun i b r h1 h2 => by
    unfold addDead at h1
    rw [List.getElem?_append_left (h.dom i r h2)] at h1
    exact h1
  exact ⟨fun i r hi => by unfold addDead; have := h.dom i r hi; simp; omega, fun i b r h1 h2 => h.ok i b r (key i b r h1 h2) h2, h.lt, h.inj, fun i b r h1 h2 => h.own i b r (key i b r h1 h2) h2, h.kept, h.pre, h.new⟩

/-- less is known -/
structure Less (s s' : St) : Prop where
  tl : s'.t.length = s.t.length
  t : ∀ x : Nat, s'.t[x]? = s.t[x]? ∨ s'.t[x]? = some .any
  ml : s.m.length ≤ s'.m.length
  m : ∀ x : Nat, s'.m[x]? = s.m[x]? ∨ s'.m[x]? = some .dead
  d : s'.d = s.d
theorem Less.refl (s : St) : Less s s := ⟨rfl, fun _ => .inl rfl, Nat.le_refl _, fun _ => .inl rfl, rfl⟩
theorem RL_any {ρ : Nat → Option Nat} : ∀ {l l' : List SV} {us : List Value}, SV.RL ρ l us → l'.length = l.length → (∀ x : Nat, l'[x]? = l[x]? ∨ l'[x]? = some .any) → SV.RL ρ l' us
  | [], [], _, h, _, _ => h
  | [], _ :: _, _, _, h, _ => by simp at h
  | _ :: _, [], _, _, h, _ => by simp at h
  | x :: l, y :: l', _, ⟨u, us', h1, h2, h3⟩, hl, hx => by
    refine ⟨u, us', h1, ?_, RL_any h3 (by simpa using hl) fun i => by have := hx (i + 1); simpa using this⟩
    rcases hx 0 with h | h
    · simp at h; rw [h]; exact h2
    · simp at h; rw [h]; trivial
theorem Less.rep {s' : St} (h : Less s s') (hr : Rep E ρ s a w) : Rep E ρ s' a w := by
  obtain ⟨us, h1, h2⟩ := hr.t
  have hm := hr.m
  have key : ∀ (i : Nat) (b : Blk), s'.m[i]? = some b → s.m[i]? = some b ∨ b = .dead := fun i b hb => by
    rcases h.m i with h3 | h3
    · rw [h3] at hb; exact .inl hb
    · rw [h3] at hb; cases hb; exact .inr rfl
  refine ⟨⟨us, h1, RL_any h2 h.tl h.t⟩, by rw [h.d]; exact hr.d, ⟨fun i r hi => Nat.lt_of_lt_of_le (hm.dom i r hi) h.ml, fun i b r h3 h4 o ho => ?_, hm.lt, hm.inj, fun i b r h3 h4 h5 => ?_, hm.kept, hm.pre, hm.new⟩⟩
  · rcases key i b h3 with h6 | rfl
    · exact hm.ok i b r h6 h4 o ho
    · trivial
  · rcases key i b h3 with h6 | rfl
    · exact hm.own i b r h6 h4 h5
    · cases h5
theorem less_m (r : Rec) (d : Option Tmp) {s : St} {m1 : List Blk} (hl : s.m.length ≤ m1.length) (hm : ∀ x : Nat, m1[x]? = s.m[x]? ∨ m1[x]? = some .dead) (b : Bool) :
    (if b then s.appR d r else s).m.length ≤ (weakM r m1).length ∧ ∀ x : Nat, (weakM r m1)[x]? = (if b then s.appR d r else s).m[x]? ∨ (weakM r m1)[x]? = some .dead := by
  have hout : ∀ x, m1.length ≤ x → s.m[x]? = none := fun x hx => List.getElem?_eq_none (by omega)
  have plain : s.m.length ≤ m1.length ∧ ∀ x : Nat, m1[x]? = s.m[x]? ∨ m1[x]? = some .dead := ⟨hl, hm⟩
  cases r with
  | pan v m =>
    have : (if b then s.appR d (.pan v m) else s) = s := by cases b <;> rfl
    rw [this]; exact plain
  | never =>
    have : (if b then s.appR d .never else s) = s := by cases b <;> rfl
    rw [this]; exact plain
  | ok rc f =>
    obtain ⟨v, e⟩ := rc
    have hm2 : (if b then s.appR d (.ok ⟨v, e⟩ f) else s).m = if b then effM e s.m else s.m := by
      cases b
      · rfl
      · simp only [if_true]; rw [app_m']
    rw [hm2]
    cases e with
    | none => cases b <;> exact plain
    | one i bl =>
      refine ⟨by cases b <;> simp [weakM, effM] <;> exact hl, fun x => ?_⟩
      simp only [weakM]
      by_cases hx : i = x
      · subst hx
        by_cases hi : i < m1.length
        · exact .inr (by simp [hi])
        · refine .inl ?_
          rw [List.getElem?_eq_none (by simp; omega), List.getElem?_eq_none]
          cases b
          · simp only [Bool.false_eq_true, if_false]; omega
          · simp [effM]; omega
      · rw [List.getElem?_set_ne hx]
        cases b
        · exact hm x
        · simp only [if_true, effM]
          rw [List.getElem?_set_ne hx]
          exact hm x
    | app bs =>
      refine ⟨by cases b <;> simp [weakM, effM] <;> omega, fun x => ?_⟩
      simp only [weakM]
      rcases Nat.lt_or_ge x m1.length with hx | hx
      · rw [List.getElem?_append_left hx]
        rcases hm x with h1 | h1
        · rcases Nat.lt_or_ge x s.m.length with hy | hy
          · refine .inl (h1.trans ?_)
            cases b
            · rfl
            · simp only [if_true, effM]; rw [List.getElem?_append_left hy]
          · rw [List.getElem?_eq_getElem hx, List.getElem?_eq_none hy] at h1
            cases h1
        · exact .inr h1
      · rw [List.getElem?_append_right hx, List.getElem?_replicate]
        split
        · exact .inr rfl
        · refine .inl ?_
          rw [List.getElem?_eq_none]
          cases b
          · simp only [Bool.false_eq_true, if_false]; omega
          · simp [effM]; omega
    | all m' =>
      refine ⟨by cases b <;> simp [weakM, effM] <;> omega, fun x => ?_⟩
      simp only [weakM, List.getElem?_replicate]
      split
      · exact .inr rfl
      · refine .inl ?_
        rw [List.getElem?_eq_none]
        cases b
        · simp only [Bool.false_eq_true, if_false]; omega
        · simp [effM]; omega
theorem less_comb : ∀ (l : List Oper) (rs : List Rec) (f : Nat → Bool) (i : Nat) (s s1 : St), Less s s1 → Less (comb l rs f i s) (weak l rs s1)
  | [], _, _, _, _, _, h => h
  | _ :: _, [], _, _, _, _, h => h
  | o :: l, r :: rs, f, i, s, s1, h => by
    unfold comb weak
    refine less_comb l rs f (i + 1) _ _ ?_
    have hT : ∀ (d : Option Tmp) (t : List SV), (match tgtT d r with | some x => t.set x .any | none => t).length = t.length := fun d t => by split <;> simp
    have lt : (s.appR o.dst r).t.length = s.t.length := by
      rw [app_t]; cases r <;> cases o.dst <;> simp
    have both : ∀ b : Bool, Less (if b then s.appR o.dst r else s) { t := match tgtT o.dst r with | some x => s1.t.set x .any | none => s1.t, m := weakM r s1.m, d := s1.d } := fun b => by
      obtain ⟨hm1, hm2⟩ := less_m r o.dst h.ml h.m b
      refine ⟨?_, fun x => ?_, hm1, hm2, ?_⟩
      · show (match tgtT o.dst r with | some x => s1.t.set x .any | none => s1.t).length = _
        rw [hT, h.tl]; cases b
        · rfl
        · exact lt.symm
      · show (match tgtT o.dst r with | some x => s1.t.set x .any | none => s1.t)[x]? = _ ∨ (match tgtT o.dst r with | some x => s1.t.set x .any | none => s1.t)[x]? = _
        by_cases ht : tgtT o.dst r = some x
        · rw [ht]
          by_cases hx : x < s1.t.length
          · exact .inr (by simp [hx])
          · have h1 : x ≥ s.t.length := by rw [← h.tl]; omega
            refine .inl ?_
            rw [List.getElem?_eq_none (by simp; omega), List.getElem?_eq_none]
            cases b
            · exact h1
            · simp only [if_true]; rw [lt]; exact h1
        · have e1 : (match tgtT o.dst r with | some x => s1.t.set x .any | none => s1.t)[x]? = s1.t[x]? := by
            cases hh : tgtT o.dst r with
            | none => rfl
            | some y =>
              have : y ≠ x := fun e => ht (by rw [hh, e])
              simp [List.getElem?_set_ne this]
          have e2 := (app_t_other (s := s) ht).1
          rw [nth_eq, nth_eq] at e2
          rw [e1]
          cases b
          · exact h.t x
          · simp only [if_true]; rw [e2]; exact h.t x
      · cases b
        · exact h.d
        · simp only [if_true]; rw [app_d]; exact h.d
    exact both (f i)

theorem getD_replicate_false (m j : Nat) : (Array.replicate m false).getD j false = false := by
  rcases Nat.lt_or_ge j m with h | h
  · simp [h]
  · simp [h]
theorem draw_sound {ic : ICall β} (hic : ICallOk rd P ic) {call : CallK β} (hcall : CallOk rd P call) (hP : POk P) {id : Nat} {ops : Array Oper} {k : Ex → St → Option β} (h : sxDraw P rd ic call ops s k = some out) :
    ∃ e s', k e s' = some out ∧ Runs P rd (.region id ops true) s e s' := by
  unfold sxDraw at h
  rw [preF_eq] at h
  simp only at h
  split at h
  · rename_i hB
    obtain ⟨recs, bad, s1, hlex, hfin⟩ := lex_sound hic hcall hP.names ops.toList 0 s.m.length [] none _ (fun j => by simp) h
    by_cases hO : (orderB ops (mkPre ops.toList) ops.toList recs 0 && newB ops.toList recs) = true
    · replace hfin := (if_pos hO).symm.trans hfin
      rw [Bool.and_eq_true] at hO
      have hlen0 : (addDead (ops.toList.filter fun o => isNew o.op).length s.m).length = s.m.length + (ops.toList.filter fun o => isNew o.op).length := by
        unfold addDead; simp
      have go : ∀ (e : Ex) (s' : St), (bad = none → e = .normal ∧ s' = s1) →
          (∀ x, bad = some x → e = .panic (.val x.2.1) ∧ s' = match x.2.2 with | none => weak ops.toList recs { s with m := addDead (ops.toList.filter fun o => isNew o.op).length s.m } | some m' => { weak ops.toList recs { s with m := addDead (ops.toList.filter fun o => isNew o.op).length s.m } with m := m' }) → Runs P rd (.region id ops true) s e s' := by
        intro e s' hn hp E hE ρ a w Q hr hpost
        refine wp_region_any hP.mixed ?_
        have hr0 : Rep (E.at ρ) ρ { s with m := addDead (ops.toList.filter fun o => isNew o.op).length s.m } a { w with drawn := w.drawn + 1 } := ⟨hr.t, hr.d, ((hr.m.pad _).drawn _).at⟩
        refine any_sound (E := E.at ρ) hE hlex hO.1 hO.2 (by rw [hlen0]; exact Nat.le_refl _) (by unfold slotN; rw [show ops.toList.take ops.size = ops.toList by rw [← Array.length_toList]; exact List.take_length]; exact Nat.le_refl _) hB (fun hb ρ' a' w' hr' => ?_) (fun x hx f ρ' a' w' hr' => ?_) ops.size (Array.replicate ops.size false) ρ a _ ⟨by simp, by simp, ?_, ?_, ?_, ?_⟩
        · obtain ⟨rfl, rfl⟩ := hn hb
          obtain ⟨h1, h2⟩ := hr'.m.back hr.m
          exact hpost ρ' a' w' h1 ⟨hr'.t, hr'.d, h2⟩
        · obtain ⟨j, v, mo⟩ := x
          obtain ⟨rfl, rfl⟩ := hp _ hx
          have hls := less_comb ops.toList recs f 0 _ _ (Less.refl { s with m := addDead (ops.toList.filter fun o => isNew o.op).length s.m })
          cases mo with
          | none =>
            have hr2 := hls.rep hr'
            obtain ⟨h1, h2⟩ := hr2.m.back hr.m
            exact hpost ρ' a' w' h1 ⟨hr2.t, hr2.d, h2⟩ _ rfl
          | some m' =>
            have hls2 : Less { comb ops.toList recs f 0 { s with m := addDead (ops.toList.filter fun o => isNew o.op).length s.m } with m := m' } { weak ops.toList recs { s with m := addDead (ops.toList.filter fun o => isNew o.op).length s.m } with m := m' } :=
              ⟨hls.tl, hls.t, Nat.le_refl _, fun _ => .inl rfl, hls.d⟩
            have hr2 := hls2.rep hr'
            obtain ⟨h1, h2⟩ := hr2.m.back hr.m
            exact hpost ρ' a' w' h1 ⟨hr2.t, hr2.d, h2⟩ _ rfl
        · intro i o _ hl; rw [getD_replicate_false] at hl; cases hl
        · intro i o _ hl; rw [getD_replicate_false] at hl; cases hl
        · rw [comb_none _ _ _ _ _ fun j _ => getD_replicate_false _ _]
          exact hr0
        · intro k o r _ _ _ _ _
          exact hr.m.fresh (by unfold slotN; omega)
      cases bad with
      | none => exact ⟨_, _, hfin, go _ _ (fun _ => ⟨rfl, rfl⟩) (fun x hx => by cases hx)⟩
      | some jv =>
        obtain ⟨j, v, mo⟩ := jv
        cases mo with
        | none => exact ⟨_, _, hfin, go _ _ (fun hx => by cases hx) (fun x hx => by cases hx; exact ⟨rfl, rfl⟩)⟩
        | some m' => exact ⟨_, _, hfin, go _ _ (fun hx => by cases hx) (fun x hx => by cases hx; exact ⟨rfl, rfl⟩)⟩
    · replace hfin := (if_neg hO).symm.trans hfin
      cases hfin
  · cases h

theorem step_sound {ic : ICall β} {call : CallK β} (hic : ICallOk rd P ic) (hcall : CallOk rd P call) (hP : POk P) {rec : CodeK β} (hrec : CodeOk P rd rec) : CodeOk P rd (sxStep P rd ic call rec) := by
  intro c s k out h
  unfold sxStep at h
  split at h
  · exact ⟨_, _, h, fun E _ ρ a w Q hr hpost => wp_skip (hpost ρ a w (Le.refl _) hr)⟩
  · rename_i id ops
    obtain ⟨e, s', h1, h2⟩ := ops_sound hcall hP.names _ _ h
    exact ⟨e, s', h1, fun E hE ρ a w Q hr hpost => wp_region_list (h2 E hE ρ a w Q hr hpost)⟩
  · exact draw_sound hic hcall hP h
  · rename_i x y
    obtain ⟨e1, s1, h1, h2⟩ := hrec _ _ _ _ h
    cases e1 with
    | normal =>
      obtain ⟨e, s', h3, h4⟩ := hrec _ _ _ _ h1
      exact ⟨e, s', h3, fun E hE ρ a w Q hr hpost => wp_seq (h2 E hE ρ a w _ hr fun ρ' a' w' hl hr' => h4 E hE ρ' a' w' Q hr' (hpost.le hl))⟩
    | exit i => exact ⟨_, _, h1, fun E hE ρ a w Q hr hpost => wp_seq (h2 E hE ρ a w _ hr hpost)⟩
    | ret => exact ⟨_, _, h1, fun E hE ρ a w Q hr hpost => wp_seq (h2 E hE ρ a w _ hr hpost)⟩
    | panic v => exact ⟨_, _, h1, fun E hE ρ a w Q hr hpost => wp_seq (h2 E hE ρ a w _ hr hpost)⟩
  · rename_i c x y
    split at h
    · rename_i t ht
      have hc : ∀ E ρ a w, Rep E ρ s a w → a.eval c = .bool t := fun E ρ a w hr => by
        have := hr.eval c
        rw [ht] at this
        exact this
      have hrf := cond_refine ht
      cases t <;> simp only [cond_true, cond_false] at h <;> rw [hrf] at h
      · obtain ⟨e, s', h1, h2⟩ := hrec _ _ _ _ h
        exact ⟨e, s', h1, fun E hE ρ a w Q hr hpost => wp_cond (hc E ρ a w hr) (h2 E hE ρ a w Q hr hpost)⟩
      · obtain ⟨e, s', h1, h2⟩ := hrec _ _ _ _ h
        exact ⟨e, s', h1, fun E hE ρ a w Q hr hpost => wp_cond (hc E ρ a w hr) (h2 E hE ρ a w Q hr hpost)⟩
    · cases h
  · rename_i id x
    obtain ⟨e1, s1, h1, h2⟩ := hrec _ _ _ _ h
    cases e1 with
    | normal => exact ⟨_, _, h1, fun E hE ρ a w Q hr hpost => wp_block (h2 E hE ρ a w _ hr hpost)⟩
    | exit i =>
      simp only at h1
      split at h1
      · rename_i hi
        subst hi
        exact ⟨_, _, h1, fun E hE ρ a w Q hr hpost => wp_block (h2 E hE ρ a w _ hr fun ρ' a' w' hl hr' => by
          show Exit.inBlock i Q (.exit i) a' w'
          simp only [Exit.inBlock, if_true]
          exact hpost ρ' a' w' hl hr')⟩
      · rename_i hi
        exact ⟨_, _, h1, fun E hE ρ a w Q hr hpost => wp_block (h2 E hE ρ a w _ hr fun ρ' a' w' hl hr' => by
          show Exit.inBlock id Q (.exit i) a' w'
          simp only [Exit.inBlock, hi, if_false]
          exact hpost ρ' a' w' hl hr')⟩
    | ret => exact ⟨_, _, h1, fun E hE ρ a w Q hr hpost => wp_block (h2 E hE ρ a w _ hr hpost)⟩
    | panic v => exact ⟨_, _, h1, fun E hE ρ a w Q hr hpost => wp_block (h2 E hE ρ a w _ hr hpost)⟩
  · rename_i x
    have key : ∀ n s, sxLoop rec x k n s = some out → ∃ e s', k e s' = some out ∧ ∀ E, E.rd = rd → ∀ ρ a w Q, Rep E ρ s a w → ExPost E ρ e s' Q → Code.rounds P x Q n a w := by
      intro n
      induction n with
      | zero => intro s h; cases h
      | succ n ih =>
        intro s h
        obtain ⟨e1, s1, h1, h2⟩ := hrec _ _ _ _ h
        cases e1 with
        | normal =>
          obtain ⟨e, s', h3, h4⟩ := ih _ h1
          exact ⟨e, s', h3, fun E hE ρ a w Q hr hpost => h2 E hE ρ a w _ hr fun ρ' a' w' hl hr' => h4 E hE ρ' a' w' Q hr' (hpost.le hl)⟩
        | exit i => exact ⟨_, _, h1, fun E hE ρ a w Q hr hpost => h2 E hE ρ a w _ hr hpost⟩
        | ret => exact ⟨_, _, h1, fun E hE ρ a w Q hr hpost => h2 E hE ρ a w _ hr hpost⟩
        | panic v => exact ⟨_, _, h1, fun E hE ρ a w Q hr hpost => h2 E hE ρ a w _ hr hpost⟩
    obtain ⟨e, s', h1, h2⟩ := key 64 s h
    exact ⟨e, s', h1, fun E hE ρ a w Q hr hpost => wp_loop_rounds 64 (h2 E hE ρ a w Q hr hpost)⟩
  · exact ⟨_, _, h, fun E _ ρ a w Q hr hpost => wp_exit (hpost ρ a w (Le.refl _) hr)⟩
  · exact ⟨_, _, h, fun E _ ρ a w Q hr hpost => wp_label (hpost ρ a w (Le.refl _) hr)⟩
  · exact ⟨_, _, h, fun E _ ρ a w Q hr hpost => wp_ret (hpost ρ a w (Le.refl _) hr)⟩
  · cases h
end
end Go.SX
