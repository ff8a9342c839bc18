/-
  A symbolic executor: functions, their results, deferred calls.
-/
import Derived.Test.YtieapjdabffjcaaSxF
namespace Go.SX
open Go.RowKit

def resVal (s : St) (P : Program) (rd : Rd) : ResultVar → Option SV
  | .tmp t => some ((nth s.t t).getD (.val undef))
  | .cell a t => match (sxLoad P rd t ((nth s.t a).getD (.val undef)) s.m) with
      | .ok (v, _) => some v
      | _ => none
/-- the mode of the frame below a deferred call -/
inductive Md where
  | ret
  | pan (v : Value)
  | gone (v : Value)
def isRecover (o : Oper) : Bool :=
  match o.op with
  | .call c => (match c.callee with | .builtin .recover => true | _ => false) && o.guard.isNone
  | _ => false

section
variable (P : Program) (rd : Rd) {β : Type}
def sxResults (s : St) (fn : Func) : Option SV :=
  match allSome (fn.results.toList.map (resVal s P rd)) with
  | some [v] => some v
  | some vs => some (.tup vs)
  | none => none
def Out.join (o : Out) (m : List Blk) : Out :=
  match o.e with
  | .ret v => match v.plain with
    | some u => ⟨.ret (.val u), m⟩
    | none => ⟨.ret (v.shift m.length), m ++ o.m.map (Blk.shift m.length)⟩
  | .pan v => match v.plain with
    | some u => ⟨.pan (.val u), m⟩
    | none => ⟨.pan (v.shift m.length), m ++ o.m.map (Blk.shift m.length)⟩

/-- a region of a deferred function -/
def sxOpsD (call : CallK β) (k : Ex → St → Md → Option β) : List Oper → St → Md → Option β
  | [], s, md => k .normal s md
  | o :: rest, s, md =>
    if isRecover o then match md with
      | .pan v => sxOpsD call k rest (s.put o.dst (.val v)) (.gone v)
      | md => sxOpsD call k rest (s.put o.dst (.val .nilIface)) md
    else match o.guard with
      | none => sxOne P rd call o s fun nx => match nx with
        | .ok s' => sxOpsD call k rest s' md
        | .pan v s' => k (.panic v) s' md
      | some _ => none
def hasRecover : Code → Bool
  | .region _ ops _ => ops.toList.any isRecover
  | .seq a b => hasRecover a || hasRecover b
  | .cond _ a b => hasRecover a || hasRecover b
  | .block _ a => hasRecover a
  | _ => false
abbrev CodeD (β : Type) := Code → St → Md → (Ex → St → Md → Option β) → Option β
def sxStepD (call : CallK β) (rec : CodeK β) (recD : CodeD β) : CodeD β := fun c s md k =>
  if hasRecover c then match c with
    | .region _ ops false => sxOpsD P rd call k ops.toList s md
    | .seq a b => recD a s md fun e s' md' => match e with
      | .normal => recD b s' md' k
      | e => k e s' md'
    | .cond c a b => match evalS s c with
      | .val (.bool t) => bif t then recD a (s.refine (condT c) true) md k else recD b (s.refine (condT c) false) md k
      | _ => none
    | .block id c => recD c s md fun e s' md' => match e with
      | .exit j => if j = id then k .normal s' md' else k (.exit j) s' md'
      | e => k e s' md'
    | _ => none
  else rec c s fun e s' => k e s' md
def settleMd : Md → Md
  | .gone _ => .ret
  | m => m
/-- the deferred calls of a frame, the last one first -/
def sxDefers (recD : CodeD β) (fn : Func) (s0 : St) (kk : Out → Option β) : List SD → List Blk → Md → Option β
  | [], m, .ret => match sxResults P rd { s0 with m := m } fn with
    | some v => kk ⟨.ret v, m⟩
    | none => none
  | [], m, .pan v => kk ⟨.pan (.val v), m⟩
  | [], _, .gone _ => none
  | d :: ds, m, md => match P.funcs[d.f]? with
    | some g => match g.body with
      | some c => recD c ⟨d.args ++ d.caps ++ List.replicate (g.ntmps - (d.args ++ d.caps).length) (.val undef), m, []⟩ md fun e s md' =>
        match s.d, e with
        | [], .normal => (match sxResults P rd s g with | some _ => sxDefers recD fn s0 kk ds s.m (settleMd md') | none => none)
        | [], .ret => (match sxResults P rd s g with | some _ => sxDefers recD fn s0 kk ds s.m (settleMd md') | none => none)
        | [], .panic v => match md', v.plain with
          | .ret, some u => sxDefers recD fn s0 kk ds s.m (.pan u)
          | _, _ => none
        | _, _ => none
      | none => none
    | none => none
def sxEnter (rec : CodeK β) (recD : CodeD β) : CallK β := fun f args m kk =>
  match P.funcs[f]? with
  | some fn => match fn.body with
    | some c => rec c ⟨args ++ List.replicate (fn.ntmps - args.length) (.val undef), m, []⟩ fun e s => match e with
      | .normal => sxDefers P rd recD fn s kk s.d s.m .ret
      | .ret => sxDefers P rd recD fn s kk s.d s.m .ret
      | .panic v => match v.plain with
        | some u => sxDefers P rd recD fn s kk s.d s.m (.pan u)
        | none => none
      | .exit _ => none
    | none => none
  | none => none
/-- a table of contracts on plain values -/
abbrev PCon := FuncId → Option (List Value → R3 Out)
def sxI (g : PCon) (rec : CodeK β) (recD : CodeD β) : ICall β := fun f vs kk =>
  match g f with
  | some h => (h vs).k kk
  | none => sxEnter P rd rec recD f (vs.map .val) [] kk
def sxC (g : PCon) (rec : CodeK β) (recD : CodeD β) : CallK β := fun f args m kk =>
  match SV.plainL args with
  | some vs => sxI P rd g rec recD f vs fun o => kk (o.join m)
  | none => sxEnter P rd rec recD f args m kk
/-- both walks, so many steps deep -/
def sxBoth (g : PCon) (n : Nat) : CodeK β × CodeD β :=
  Nat.rec (fun _ _ _ => none, fun _ _ _ _ => none) (fun _ r => (sxStep P rd (sxI P rd g r.1 r.2) (sxC P rd g r.1 r.2) r.1, sxStepD P rd (sxC P rd g r.1 r.2) r.1 r.2)) n
def sxFun (g : PCon) (n : Nat) : ICall β := fun f vs kk => sxEnter P rd (sxBoth P rd g n).1 (sxBoth P rd g n).2 f (vs.map .val) [] kk
end

section
variable {E : Env} {P : Program} {rd : Rd} {ρ ρ' : Nat → Option Nat} {s s' : St} {a : Act} {w w' : World} {v : SV} {u : Value} {β : Type} {out : β} {Q : Exit → Act → World → Prop}

theorem allSome_cons {α : Type} {o : Option α} {l : List (Option α)} {r : List α} (h : allSome (o :: l) = some r) : ∃ x r', o = some x ∧ allSome l = some r' ∧ r = x :: r' := by
  cases o with
  | none => cases h
  | some x =>
    simp only [allSome, Option.map_eq_some_iff] at h
    obtain ⟨r', h1, h2⟩ := h
    exact ⟨x, r', rfl, h1, h2.symm⟩
theorem load_ok {t : TypeId} {x v : SV} {m m' : List Blk} {u : Value} (hM : Mem E ρ m w) (hx : x.R ρ u) (h : sxLoad P E.rd t x m = .ok (v, m')) :
    ∃ u', (Instr.loadAt t u).run P w = .ok u' w ∧ v.R ρ u' := by
  obtain ⟨u', h1, h2, _⟩ := load_sound (P := P) (v := v) (m' := m') hM.view hx (by rw [h]; rfl)
  exact ⟨u', h1, h2⟩
theorem asAddr_load {t : TypeId} {v u' : Value} (h : (Instr.loadAt t v).run P w = .ok u' w) : (do loadVar t (← asAddr v) : Sem Value).run P w = .ok u' w := by
  unfold Instr.loadAt at h
  cases v with
  | pointer o =>
    cases o with
    | some ad => simpa [Instr.sureAddr, asAddr] using h
    | none => simp [Instr.sureAddr, stuck, Sem.run] at h
  | _ => simp [Instr.sureAddr, stuck, Sem.run] at h
def resSem (tmps : Array Value) : ResultVar → Sem Value
  | .tmp t => pure (tmps.getD t undef)
  | .cell a t => do loadVar t (← asAddr (tmps.getD a undef))
theorem res_run (hr : Rep E ρ s a w) : ∀ (l : List ResultVar) (vs : List SV), allSome (l.map (resVal s P E.rd)) = some vs → ∃ us, (l.mapM (resSem a.tmps)).run P w = .ok us w ∧ SV.RL ρ vs us
  | [], vs, h => by
    simp only [List.map_nil, allSome, Option.some.injEq] at h
    subst h
    exact ⟨[], by simp, rfl⟩
  | r :: l, vs, h => by
    obtain ⟨x, vs', h1, h2, rfl⟩ := allSome_cons h
    obtain ⟨us, h3, h4⟩ := res_run hr l vs' h2
    have key : ∃ u, (resSem a.tmps r).run P w = .ok u w ∧ x.R ρ u := by
      cases r with
      | tmp t =>
        simp only [resVal, Option.some.injEq] at h1
        subst h1
        exact ⟨a.tmps.getD t undef, by simp [resSem], hr.eval (.tmp t)⟩
      | cell p t =>
        simp only [resVal] at h1
        split at h1
        · rename_i v' m' hv
          cases h1
          obtain ⟨u', h5, h6⟩ := load_ok (P := P) hr.m (hr.eval (.tmp p)) hv
          exact ⟨u', asAddr_load h5, h6⟩
        · cases h1
    obtain ⟨u, h5, h6⟩ := key
    refine ⟨u :: us, ?_, ⟨u, us, rfl, h6, h4⟩⟩
    simp only [List.mapM_cons, Sem.run_bind, h5, Result.andThen_ok, h3, Sem.run_pure]
theorem results_run {fn : Func} (hr : Rep E ρ s a w) (h : sxResults P E.rd s fn = some v) : ∃ u, (results fn a.tmps).run P w = .ok u w ∧ v.R ρ u := by
  have hmap : fn.results.mapM (resSem a.tmps) = List.toArray <$> fn.results.toList.mapM (resSem a.tmps) := Array.mapM_eq_mapM_toList
  have hres : (results fn a.tmps) = (do
      let vs ← fn.results.mapM (resSem a.tmps)
      pure (if h : vs.size = 1 then vs[0] else .tuple vs)) := by
    unfold results
    congr 1
  unfold sxResults at h
  cases hs : allSome (fn.results.toList.map (resVal s P E.rd)) with
  | none => rw [hs] at h; cases h
  | some vs =>
    rw [hs] at h
    obtain ⟨us, h1, h2⟩ := res_run hr _ _ hs
    have hrun : (results fn a.tmps).run P w = .ok (if h : us.toArray.size = 1 then us.toArray[0] else .tuple us.toArray) w := by
      rw [hres]
      simp only [Sem.run_bind, hmap, Sem.run_map, h1, Result.andThen_ok, Sem.run_pure]
    cases vs with
    | nil =>
      simp only [Option.some.injEq] at h
      subst h
      rw [SV.RL] at h2
      subst h2
      exact ⟨_, hrun, ⟨[], by simp, rfl⟩⟩
    | cons x l =>
      obtain ⟨u, us', rfl, h3, h4⟩ := h2
      cases l with
      | nil =>
        rw [SV.RL] at h4
        subst h4
        simp only [Option.some.injEq] at h
        subst h
        exact ⟨u, by rw [hrun]; simp, h3⟩
      | cons y l =>
        simp only [Option.some.injEq] at h
        subst h
        obtain ⟨u2, us2, rfl, h5, h6⟩ := h4
        exact ⟨_, hrun, ⟨u :: u2 :: us2, by simp, ⟨u, _, rfl, h3, ⟨u2, us2, rfl, h5, h6⟩⟩⟩⟩


def Md.to : Md → FrameMode
  | .ret => .returning
  | .pan v => .panicking [{ v := v, recovered := false }]
  | .gone v => .panicking [{ v := v, recovered := true }]
def ExQS (ρ : Nat → Option Nat) (Q : Exit → Act → List Frame → World → Prop) (a : Act) (cs : List Frame) (w : World) : Ex → Prop
  | .normal => Q .normal a cs w
  | .exit i => Q (.exit i) a cs w
  | .ret => Q .ret a cs w
  | .panic v => ∀ u, v.R ρ u → Q (.panic [{ v := u, recovered := false }]) a cs w
def PostD (E : Env) (ρ : Nat → Option Nat) (c₀ : Frame) (cs : List Frame) (e : Ex) (s' : St) (md' : Md) (Q : Exit → Act → List Frame → World → Prop) : Prop :=
  ∀ ρ' a' w', Le ρ ρ' → Rep E ρ' s' a' w' → ExQS ρ' Q a' ({ c₀ with mode := md'.to } :: cs) w' e
def RunsD (P : Program) (rd : Rd) (c : Code) (s : St) (md : Md) (e : Ex) (s' : St) (md' : Md) : Prop :=
  ∀ E, E.rd = rd → ∀ ρ a w (c₀ : Frame) (cs : List Frame) Q, c₀.mode = md.to → Rep E ρ s a w → PostD E ρ c₀ cs e s' md' Q → c.wpS P Q a (c₀ :: cs) w
def CodeDOk (P : Program) (rd : Rd) (recD : CodeD β) : Prop := ∀ c s md k (out : β), recD c s md k = some out → ∃ e s' md', k e s' md' = some out ∧ RunsD P rd c s md e s' md'
theorem frame_mode {c : Frame} {u : FrameMode} (h : c.mode = u) : ({ c with mode := u } : Frame) = c := by subst h; rfl
theorem PostD.next {c₀ : Frame} {cs : List Frame} {md1 md' : Md} {e : Ex} {Q : Exit → Act → List Frame → World → Prop} (h : PostD E ρ c₀ cs e s' md' Q) (hl : Le ρ ρ') : PostD E ρ' { c₀ with mode := md1.to } cs e s' md' Q :=
  fun ρ2 a w hl2 hr => h ρ2 a w (hl.trans hl2) hr
def _root_.Go.Exit.inBlockS (id : Nat) (Q : Exit → Act → List Frame → World → Prop) : Exit → Act → List Frame → World → Prop
  | .exit id', a, cs, w => if id' = id then Q .normal a cs w else Q (.exit id') a cs w
  | e, a, cs, w => Q e a cs w
theorem wpS_block {id : Nat} {c : Code} {cs : List Frame} {Q : Exit → Act → List Frame → World → Prop} (h : c.wpS P (Exit.inBlockS id Q) a cs w) : (Code.block id c).wpS P Q a cs w := by
  intro b k hb hro
  obtain ⟨e, a₁, cs₁, w₁, hq, harr⟩ := h b (.inBlock id :: k) hb hro
  cases e with
  | normal => exact ⟨.normal, a₁, cs₁, w₁, hq, .head step_block (Steps.trans harr (.one step_inBlock))⟩
  | exit id' =>
    by_cases hid : id' = id
    · simp only [Exit.inBlockS, hid, if_true] at hq
      exact ⟨.normal, a₁, cs₁, w₁, hq, .head step_block (harr k (by simp [exitTo, hid]))⟩
    · simp only [Exit.inBlockS, hid, if_false] at hq
      refine ⟨.exit id', a₁, cs₁, w₁, hq, fun k' hk => .head step_block (harr k' ?_)⟩
      have : (id == id') = false := by simp; exact fun h => hid h.symm
      simp [exitTo, this, hk]
  | goto l => exact ⟨_, a₁, cs₁, w₁, hq, fun k' hk => .head step_block (harr k' (by simp [gotoIn, hk]))⟩
  | ret => exact ⟨_, a₁, cs₁, w₁, hq, .of_steps (.one step_block) harr⟩
  | panic ch => exact ⟨_, a₁, cs₁, w₁, hq, .of_steps (.one step_block) harr⟩
  | outgrown => exact ⟨_, a₁, cs₁, w₁, hq, .of_steps (b := b) (k := k) (cs := cs₁) (e := .outgrown) (.one step_block) harr⟩

theorem recover_run {o : Oper} (h : isRecover o = true) : o.guard = none ∧ (execOp a.eval o).run P w = .ok .recover w := by
  unfold isRecover at h
  split at h
  · rename_i c hop
    rw [Bool.and_eq_true] at h
    obtain ⟨h1, h2⟩ := h
    refine ⟨by simpa using h2, ?_⟩
    split at h1
    · rename_i hc
      simp [execOp, hop, resolve, hc, invoke, builtin]
    · cases h1
  · cases h
theorem opsD_sound {call : CallK β} (hcall : CallOk rd P call) (hN : NamesOk P) {ops : Array Oper} {k : Ex → St → Md → Option β} :
    ∀ (l : List Oper) (i : Nat) (s : St) (md : Md), (∀ j, l[j]? = ops[i + j]?) → sxOpsD P rd call k l s md = some out → ∃ e s' md', k e s' md' = some out ∧
      ∀ E, E.rd = rd → ∀ ρ a w (c₀ : Frame) (cs : List Frame) Q, c₀.mode = md.to → Rep E ρ s a w → PostD E ρ c₀ cs e s' md' Q → wpOpsS P ops Q (List.range' i l.length) a (c₀ :: cs) w
  | [], i, s, md, _, h => ⟨.normal, s, md, h, fun E _ ρ a w c₀ cs Q hm hr hpost => by
      have := hpost ρ a w (Le.refl _) hr
      rw [frame_mode hm] at this
      exact this⟩
  | o :: l, i, s, md, hl, h => by
    have h0 : ops[i]? = some o := by simpa using (hl 0).symm
    have ih := fun s md => opsD_sound hcall hN (ops := ops) (k := k) l (i + 1) s md (fun j => by have := hl (j + 1); simpa [Nat.add_assoc, Nat.add_comm 1 j] using this)
    unfold sxOpsD at h
    split at h
    · rename_i hrec
      split at h
      · rename_i v
        obtain ⟨e, s', md', h1, h2⟩ := ih _ _ h
        refine ⟨e, s', md', h1, fun E hE ρ a w c₀ cs Q hm hr hpost => ?_⟩
        obtain ⟨hg, hrun⟩ := recover_run (P := P) (a := a) (w := w) hrec
        rw [List.length_cons, List.range'_succ]
        simp only [wpOpsS, h0]
        rw [if_pos (by simp [Region.wanted, hg]), hrun]
        have hD : recoverD (c₀ :: cs) = some (v, { c₀ with mode := (Md.gone v).to } :: cs) := by
          have hm' : c₀.mode = .panicking [{ v := v, recovered := false }] := hm
          simp [recoverD, hm', Md.to]
        simp only [hD]
        exact h2 E hE ρ _ w _ cs Q rfl (hr.put (v := .val v) (m' := s.m) (Le.refl _) rfl hr.m o.dst) (hpost.next (Le.refl _))
      · rename_i md0 hne
        obtain ⟨e, s', md', h1, h2⟩ := ih _ _ h
        refine ⟨e, s', md', h1, fun E hE ρ a w c₀ cs Q hm hr hpost => ?_⟩
        obtain ⟨hg, hrun⟩ := recover_run (P := P) (a := a) (w := w) hrec
        rw [List.length_cons, List.range'_succ]
        simp only [wpOpsS, h0]
        rw [if_pos (by simp [Region.wanted, hg]), hrun]
        have hD : recoverD (c₀ :: cs) = none := by
          cases md with
          | ret => have hm' : c₀.mode = .returning := hm; simp [recoverD, hm']
          | pan v => exact absurd rfl (hne v)
          | gone v => have hm' : c₀.mode = .panicking [{ v := v, recovered := true }] := hm; simp [recoverD, hm']
        simp only [hD]
        exact h2 E hE ρ _ w c₀ cs Q hm (hr.put (v := .val .nilIface) (m' := s.m) (Le.refl _) rfl hr.m o.dst) hpost
    · split at h
      · rename_i hg
        have fin : ∀ nx : Nx, (∀ E, E.rd = rd → ∀ ρ a w K Q, Rep E ρ s a w → NxPost E ρ K Q nx → o.wp P a w K Q) → ∀ E, E.rd = rd → ∀ ρ a w (cs : List Frame) Q, Rep E ρ s a w →
            NxPost E ρ (fun a' w' => wpOpsS P ops Q (List.range' (i + 1) l.length) a' cs w') (fun e a' w' => Q e a' cs w') nx → wpOpsS P ops Q (List.range' i (o :: l).length) a cs w := by
          intro nx h2 E hE ρ a w cs Q hr hpost
          have h3 := h2 E hE ρ a w _ _ hr hpost
          rw [List.length_cons, List.range'_succ]
          simp only [wpOpsS, h0]
          rw [if_pos (by simp [Region.wanted, hg])]
          unfold Oper.wp at h3
          generalize (execOp a.eval o).run P w = r at h3 ⊢
          cases r with
          | halt x w' => exact h3
          | ok n w' => cases n <;> first | exact h3 | exact False.elim h3
        obtain ⟨nx, h1, h2⟩ := one_sound hcall hN h
        cases nx with
        | ok s1 =>
          obtain ⟨e, s', md', h3, h4⟩ := ih s1 md h1
          exact ⟨e, s', md', h3, fun E hE ρ a w c₀ cs Q hm hr hpost => fin _ h2 E hE ρ a w _ Q hr fun ρ' a' w' hl' hr' => h4 E hE ρ' a' w' c₀ cs Q hm hr' fun ρ2 a2 w2 hl2 hr2 => hpost ρ2 a2 w2 (hl'.trans hl2) hr2⟩
        | pan v s1 =>
          refine ⟨_, _, _, h1, fun E hE ρ a w c₀ cs Q hm hr hpost => fin _ h2 E hE ρ a w _ Q hr fun ρ' a' w' hl' hr' => ?_⟩
          have := hpost ρ' a' w' hl' hr'
          rw [frame_mode hm] at this
          exact this
      · cases h
theorem stepD_sound {call : CallK β} (hcall : CallOk rd P call) (hN : NamesOk P) {rec : CodeK β} (hrec : CodeOk P rd rec) {recD : CodeD β} (hrecD : CodeDOk P rd recD) : CodeDOk P rd (sxStepD P rd call rec recD) := by
  intro c s md k out h
  unfold sxStepD at h
  split at h
  · split at h
    · rename_i id ops _
      obtain ⟨e, s', md', h1, h2⟩ := opsD_sound hcall hN (ops := ops) ops.toList 0 s md (fun j => by simp) h
      refine ⟨e, s', md', h1, fun E hE ρ a w c₀ cs Q hm hr hpost => wpS_region ?_⟩
      rw [List.range_eq_range']
      have := h2 E hE ρ a w c₀ cs Q hm hr hpost
      rwa [Array.length_toList] at this
    · rename_i x y _
      obtain ⟨e1, s1, md1, h1, h2⟩ := hrecD _ _ _ _ _ h
      cases e1 with
      | normal =>
        obtain ⟨e, s', md', h3, h4⟩ := hrecD _ _ _ _ _ h1
        exact ⟨e, s', md', h3, fun E hE ρ a w c₀ cs Q hm hr hpost => wpS_seq (h2 E hE ρ a w c₀ cs _ hm hr fun ρ' a' w' hl hr' => h4 E hE ρ' a' w' _ cs Q rfl hr' (hpost.next hl))⟩
      | exit i => exact ⟨_, _, _, h1, fun E hE ρ a w c₀ cs Q hm hr hpost => wpS_seq (h2 E hE ρ a w c₀ cs _ hm hr hpost)⟩
      | ret => exact ⟨_, _, _, h1, fun E hE ρ a w c₀ cs Q hm hr hpost => wpS_seq (h2 E hE ρ a w c₀ cs _ hm hr hpost)⟩
      | panic v => exact ⟨_, _, _, h1, fun E hE ρ a w c₀ cs Q hm hr hpost => wpS_seq (h2 E hE ρ a w c₀ cs _ hm hr hpost)⟩
    · rename_i c x y _
      split at h
      · rename_i t ht
        have hc : ∀ E ρ a w, Rep E ρ s a w → a.eval c = .bool t := fun E ρ a w hr => by
          have := hr.eval c
          rw [ht] at this
          exact this
        have hrf := cond_refine ht
        cases t <;> simp only [cond_true, cond_false] at h <;> rw [hrf] at h
        · obtain ⟨e, s', md', h1, h2⟩ := hrecD _ _ _ _ _ h
          exact ⟨e, s', md', h1, fun E hE ρ a w c₀ cs Q hm hr hpost => wpS_cond (hc E ρ a w hr) (h2 E hE ρ a w c₀ cs Q hm hr hpost)⟩
        · obtain ⟨e, s', md', h1, h2⟩ := hrecD _ _ _ _ _ h
          exact ⟨e, s', md', h1, fun E hE ρ a w c₀ cs Q hm hr hpost => wpS_cond (hc E ρ a w hr) (h2 E hE ρ a w c₀ cs Q hm hr hpost)⟩
      · cases h
    · rename_i id x _
      obtain ⟨e1, s1, md1, h1, h2⟩ := hrecD _ _ _ _ _ h
      cases e1 with
      | normal => exact ⟨_, _, _, h1, fun E hE ρ a w c₀ cs Q hm hr hpost => wpS_block (h2 E hE ρ a w c₀ cs _ hm hr hpost)⟩
      | exit i =>
        simp only at h1
        split at h1
        · rename_i hi
          subst hi
          exact ⟨_, _, _, h1, fun E hE ρ a w c₀ cs Q hm hr hpost => wpS_block (h2 E hE ρ a w c₀ cs _ hm hr fun ρ' a' w' hl hr' => by
            show Exit.inBlockS i Q (.exit i) a' _ w'
            simp only [Exit.inBlockS, if_true]
            exact hpost ρ' a' w' hl hr')⟩
        · rename_i hi
          exact ⟨_, _, _, h1, fun E hE ρ a w c₀ cs Q hm hr hpost => wpS_block (h2 E hE ρ a w c₀ cs _ hm hr fun ρ' a' w' hl hr' => by
            show Exit.inBlockS id Q (.exit i) a' _ w'
            simp only [Exit.inBlockS, hi, if_false]
            exact hpost ρ' a' w' hl hr')⟩
      | ret => exact ⟨_, _, _, h1, fun E hE ρ a w c₀ cs Q hm hr hpost => wpS_block (h2 E hE ρ a w c₀ cs _ hm hr hpost)⟩
      | panic v => exact ⟨_, _, _, h1, fun E hE ρ a w c₀ cs Q hm hr hpost => wpS_block (h2 E hE ρ a w c₀ cs _ hm hr hpost)⟩
    · cases h
  · obtain ⟨e, s', h1, h2⟩ := hrec _ _ _ _ h
    refine ⟨e, s', md, h1, fun E hE ρ a w c₀ cs Q hm hr hpost => wpS_of_wp (h2 E hE ρ a w _ hr fun ρ' a' w' hl hr' => ?_)⟩
    have := hpost ρ' a' w' hl hr'
    rw [frame_mode hm] at this
    cases e <;> exact this

end
end Go.SX
