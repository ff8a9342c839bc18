/-
  A symbolic executor: functions are as their runs show.
-/
import Derived.Test.YtieapjdabffjcaaSxG
namespace Go.SX
open Go.RowKit

section
variable {E : Env} {P : Program} {rd : Rd} {ρ ρ' : Nat → Option Nat} {s s' : St} {a : Act} {w w' : World} {v : SV} {u : Value} {β : Type} {out : β} {Q : Exit → Act → World → Prop}

def FinOk (E : Env) (ρ : Nat → Option Nat) (o : Out) (R : Ending → World → Prop) : Prop := ∀ ρ' w', Le ρ ρ' → Mem E ρ' o.m w' → OutOk ρ' o R w'
theorem settle_to (md : Md) : settle md.to = (settleMd md).to := by cases md <;> rfl
theorem defers_sound (hN : NamesOk P) {recD : CodeD β} (hrecD : CodeDOk P rd recD) {fn : Func} {s0 : St} {kk : Out → Option β} : ∀ (ds : List SD) (m : List Blk) (md : Md), sxDefers P rd recD fn s0 kk ds m md = some out →
    ∃ o, kk o = some out ∧ ∀ E, E.rd = rd → ∀ ρ (tmps : Array Value) (D : List Deferred) w R, (∃ us, tmps = us.toArray ∧ SV.RL ρ s0.t us) → DL ρ ds D → Mem E ρ m w → FinOk E ρ o R → Leaves P fn tmps R D md.to w
  | [], m, .ret, h => by
    simp only [sxDefers] at h
    split at h
    · rename_i v hv
      refine ⟨_, h, fun E hE ρ tmps D w R ht hd hm hfin => ?_⟩
      subst hE
      rw [DL] at hd
      subst hd
      have hr : Rep E ρ { s0 with m := m, d := [] } { tmps := tmps, defers := [] } w := ⟨ht, rfl, hm⟩
      have hv' : sxResults P E.rd { s0 with m := m, d := [] } fn = some v := hv
      obtain ⟨u, h1, h2⟩ := results_run (P := P) hr hv'
      exact ⟨u, h1, hfin ρ w (Le.refl _) hm u h2⟩
    · cases h
  | [], m, .pan v, h => by
    refine ⟨_, h, fun E _ ρ tmps D w R _ hd hm hfin => ?_⟩
    rw [DL] at hd
    subst hd
    exact hfin ρ w (Le.refl _) hm v rfl
  | [], m, .gone v, h => by simp [sxDefers] at h
  | d :: ds, m, md, h => by
    simp only [sxDefers] at h
    split at h
    · rename_i g hg
      split at h
      · rename_i c hc
        obtain ⟨e, s1, md1, h1, h2⟩ := hrecD _ _ _ _ _ h
        have fin : ∀ (md2 : Md) (o : Out), (∀ E, E.rd = rd → ∀ ρ (tmps : Array Value) (D : List Deferred) w R, (∃ us, tmps = us.toArray ∧ SV.RL ρ s0.t us) → DL ρ ds D → Mem E ρ s1.m w → FinOk E ρ o R → Leaves P fn tmps R D md2.to w) →
            s1.d = [] → (match e with | .normal => md2 = settleMd md1 ∧ (sxResults P rd s1 g).isSome | .ret => md2 = settleMd md1 ∧ (sxResults P rd s1 g).isSome | .panic v => md1 = .ret ∧ ∃ u, v.plain = some u ∧ md2 = .pan u | .exit _ => False) →
            ∀ E, E.rd = rd → ∀ ρ (tmps : Array Value) (D : List Deferred) w R, (∃ us, tmps = us.toArray ∧ SV.RL ρ s0.t us) → DL ρ (d :: ds) D → Mem E ρ m w → FinOk E ρ o R → Leaves P fn tmps R D md.to w := by
          intro md2 o hrest hsd he E hE ρ tmps D w R ht hd hm hfin
          obtain ⟨D1, D', rfl, ⟨cs, as, rfl, hcs, has⟩, hD'⟩ := hd
          have hrun : md.to ≠ .run := by cases md <;> simp [Md.to]
          have hbody : g.body.isSome = true := by rw [hc]; rfl
          have hn := hN _ _ hg hbody
          have hn' : g.body.isNone = false := by rw [hc]; rfl
          have hinv : (invoke (.fn (.func d.f) cs.toArray) as.toArray).run P w = .ok (.enter d.f (as.toArray ++ cs.toArray)) w := by
            simp only [invoke, callFunc, program, Sem.run_bind, Sem.run, Result.andThen_ok, hg, hn, hn', Bool.false_eq_true, if_false, Sem.run_pure]
          refine leaves_cons hrun hinv (callsD_of_wpS hg hc fun c₀ cs0 hu => ?_)
          refine h2 E hE ρ _ w c₀ cs0 _ hu ⟨⟨as ++ cs ++ List.replicate (g.ntmps - (as ++ cs).length) undef, by apply Array.toList_inj.1; simp, ?_⟩, rfl, hm⟩ ?_
          · have hlen : (as ++ cs).length = (d.args ++ d.caps).length := by rw [List.length_append, List.length_append, has.length, hcs.length]
            rw [hlen]
            exact (has.append hcs).append (SV.RL.replicate undef _)
          · intro ρ' a' w' hl hr'
            have hdef : a'.defers = [] := by
              have := hr'.d
              rw [hsd, DL] at this
              exact this
            have ht' : ∃ us, tmps = us.toArray ∧ SV.RL ρ' s0.t us := by
              obtain ⟨us, h3, h4⟩ := ht
              exact ⟨us, h3, h4.pre hl⟩
            have hfin' : FinOk E ρ' o R := fun ρ2 w2 hl2 hm2 => hfin ρ2 w2 (hl.trans hl2) hm2
            have hlv := hrest E hE ρ' tmps D' w' R ht' (hD'.pre hl) hr'.m hfin'
            have retd : (sxResults P rd s1 g).isSome → md2 = settleMd md1 → bodyPostS P g c₀ cs0 (fun
                | .returned _, u', w' => Leaves P fn tmps R D' (settle u') w'
                | .panicked chain, u', w' => Leaves P fn tmps R D' (raised u' chain) w'
                | .outgrown, _, w' => R .outgrown w') .ret a' ({ c₀ with mode := md1.to } :: cs0) w' := fun hres hmd => by
              obtain ⟨v, hv⟩ := Option.isSome_iff_exists.1 hres
              subst hE
              obtain ⟨u, h3, _⟩ := results_run (P := P) hr' hv
              refine ⟨hdef, md1.to, rfl, u, h3, ?_⟩
              show Leaves P fn tmps R D' (settle md1.to) w'
              rw [settle_to, ← hmd]
              exact hlv
            cases e with
            | normal => exact retd he.2 he.1
            | ret => exact retd he.2 he.1
            | exit i => exact he.elim
            | panic v =>
              obtain ⟨rfl, u, hu2, rfl⟩ := he
              intro x hx
              have : x = u := SV.plain_R _ _ _ hu2 hx
              subst this
              exact ⟨hdef, Md.ret.to, rfl, hlv⟩
        cases hsd : s1.d with
        | cons x y => rw [hsd] at h1; cases e <;> cases h1
        | nil =>
          rw [hsd] at h1
          cases e with
          | normal =>
            simp only at h1
            split at h1
            · rename_i v hv
              obtain ⟨o, h3, h4⟩ := defers_sound hN hrecD ds _ _ h1
              exact ⟨o, h3, fin _ o h4 hsd ⟨rfl, by rw [hv]; rfl⟩⟩
            · cases h1
          | ret =>
            simp only at h1
            split at h1
            · rename_i v hv
              obtain ⟨o, h3, h4⟩ := defers_sound hN hrecD ds _ _ h1
              exact ⟨o, h3, fin _ o h4 hsd ⟨rfl, by rw [hv]; rfl⟩⟩
            · cases h1
          | exit i => cases h1
          | panic v =>
            simp only at h1
            cases md1 with
            | pan x => cases h1
            | gone x => cases h1
            | ret =>
              cases hu : v.plain with
              | none => rw [hu] at h1; cases h1
              | some u =>
                rw [hu] at h1
                obtain ⟨o, h3, h4⟩ := defers_sound hN hrecD ds _ _ h1
                exact ⟨o, h3, fin _ o h4 hsd ⟨rfl, u, hu, rfl⟩⟩
      · cases h
    · cases h

theorem enter_sound (hN : NamesOk P) {rec : CodeK β} (hrec : CodeOk P rd rec) {recD : CodeD β} (hrecD : CodeDOk P rd recD) : CallOk rd P (sxEnter P rd rec recD) := by
  intro f args m kk out h
  unfold sxEnter at h
  split at h
  · rename_i fn hf
    split at h
    · rename_i c hb
      obtain ⟨e, s1, h1, h2⟩ := hrec _ _ _ _ h
      refine ⟨⟨fn, hf, by rw [hb]; rfl⟩, ?_⟩
      have fin : ∀ (md : Md) (o : Out), (∀ E, E.rd = rd → ∀ ρ (tmps : Array Value) (D : List Deferred) w R, (∃ us, tmps = us.toArray ∧ SV.RL ρ s1.t us) → DL ρ s1.d D → Mem E ρ s1.m w → FinOk E ρ o R → Leaves P fn tmps R D md.to w) →
          (match e with | .normal => md = .ret | .ret => md = .ret | .panic v => ∃ u, v.plain = some u ∧ md = .pan u | .exit _ => False) → CRuns rd P f args m o := by
        intro md o hd he E hE ρ w us R hm hargs hfin
        refine calls_of_wp_defers hf hb (h2 E hE ρ _ w _ ⟨⟨us ++ List.replicate (fn.ntmps - args.length) undef, ?_, ?_⟩, rfl, hm⟩ ?_)
        · apply Array.toList_inj.1
          simp [hargs.length]
        · exact hargs.append (SV.RL.replicate undef _)
        · intro ρ' a' w' hl hr'
          have hlv := hd E hE ρ' a'.tmps a'.defers w' R hr'.t hr'.d hr'.m fun ρ2 w2 hl2 hm2 => hfin ρ2 w2 (hl.trans hl2) hm2
          cases e with
          | normal => subst he; exact hlv
          | ret => subst he; exact hlv
          | exit i => exact he.elim
          | panic v =>
            obtain ⟨u, hu, rfl⟩ := he
            intro x hx
            have : x = u := SV.plain_R _ _ _ hu hx
            subst this
            exact hlv
      cases e with
      | normal =>
        obtain ⟨o, h3, h4⟩ := defers_sound hN hrecD _ _ _ h1
        exact ⟨o, h3, fin _ o h4 rfl⟩
      | ret =>
        obtain ⟨o, h3, h4⟩ := defers_sound hN hrecD _ _ _ h1
        exact ⟨o, h3, fin _ o h4 rfl⟩
      | panic v =>
        simp only at h1
        split at h1
        · rename_i u hu
          obtain ⟨o, h3, h4⟩ := defers_sound hN hrecD _ _ _ h1
          exact ⟨o, h3, fin _ o h4 ⟨u, hu, rfl⟩⟩
        · cases h1
      | exit i => cases h1
    · cases h
  · cases h

theorem join_sound {f : FuncId} {vs : List Value} {o : Out} (h : IRuns rd P f vs o) {args : List SV} (hargs : SV.plainL args = some vs) (m : List Blk) : CRuns rd P f args m (o.join m) := by
  intro E hE ρ w us R hm hr hfin
  have : us = vs := SV.plainL_R _ _ _ hargs hr
  subst this
  have hrd : rd.Ok w fun _ => False := by subst hE; exact hm.kept.read
  refine h w R hrd fun ρ1 w' h1 => ?_
  have hp := hm.below h1.stopIso
  have hs := hm.beside h1
  obtain ⟨e, m1⟩ := o
  cases e with
  | ret v =>
    intro x hx
    cases hv : v.plain with
    | some u =>
      have hj : Out.join ⟨.ret v, m1⟩ m = ⟨.ret (.val u), m⟩ := by simp only [Out.join, hv]
      rw [hj] at hfin
      exact hfin ρ w' (Le.refl _) hp x (SV.plain_R _ _ _ hv hx)
    | none =>
      have hj : Out.join ⟨.ret v, m1⟩ m = ⟨.ret (v.shift m.length), m ++ m1.map (Blk.shift m.length)⟩ := by simp only [Out.join, hv]
      rw [hj] at hfin
      exact hfin _ w' (beside_le hm) hs x (shift_R v x hx)
  | pan v =>
    intro x hx
    cases hv : v.plain with
    | some u =>
      have hj : Out.join ⟨.pan v, m1⟩ m = ⟨.pan (.val u), m⟩ := by simp only [Out.join, hv]
      rw [hj] at hfin
      exact hfin ρ w' (Le.refl _) hp x (SV.plain_R _ _ _ hv hx)
    | none =>
      have hj : Out.join ⟨.pan v, m1⟩ m = ⟨.pan (v.shift m.length), m ++ m1.map (Blk.shift m.length)⟩ := by simp only [Out.join, hv]
      rw [hj] at hfin
      exact hfin _ w' (beside_le hm) hs x (shift_R v x hx)

/-- contracts hold -/
def PConOk (P : Program) (rd : Rd) (g : PCon) : Prop :=
  ∀ f h, g f = some h → HasBody P f ∧ ∀ vs o, (h vs).res = some o → IRuns rd P f vs o
theorem crun_irun {f : FuncId} {vs : List Value} {o : Out} (h : CRuns rd P f (vs.map .val) [] o) : IRuns rd P f vs o := fun w R hrd hfin =>
  h (Env.iso rd w hrd) rfl (fun _ => none) w vs R (Mem.startIso hrd) (SV.RL.vals vs) fun ρ' w' _ hm => hfin ρ' w' hm
theorem i_sound (hN : NamesOk P) {g : PCon} (hg : PConOk P rd g) {rec : CodeK β} (hrec : CodeOk P rd rec) {recD : CodeD β} (hrecD : CodeDOk P rd recD) : ICallOk rd P (sxI P rd g rec recD) := by
  intro f vs kk out h
  unfold sxI at h
  split at h
  · rename_i hh hf
    obtain ⟨hb, hc⟩ := hg f hh hf
    obtain ⟨o, h1, h2⟩ := R3.k_some _ _ _ h
    exact ⟨hb, o, h2, hc vs o h1⟩
  · obtain ⟨hb, o, h1, h2⟩ := enter_sound hN hrec hrecD _ _ _ _ _ h
    exact ⟨hb, o, h1, crun_irun h2⟩
theorem c_sound (hN : NamesOk P) {g : PCon} (hg : PConOk P rd g) {rec : CodeK β} (hrec : CodeOk P rd rec) {recD : CodeD β} (hrecD : CodeDOk P rd recD) : CallOk rd P (sxC P rd g rec recD) := by
  intro f args m kk out h
  unfold sxC at h
  split at h
  · rename_i vs hvs
    obtain ⟨hb, o, h1, h2⟩ := i_sound hN hg hrec hrecD _ _ _ _ h
    exact ⟨hb, _, h1, join_sound h2 hvs m⟩
  · exact enter_sound hN hrec hrecD _ _ _ _ _ h
theorem both_sound (hP : POk P) {g : PCon} (hg : PConOk P rd g) : ∀ n : Nat, CodeOk P rd (sxBoth P rd g n (β := β)).1 ∧ CodeDOk P rd (sxBoth P rd g n (β := β)).2
  | 0 => ⟨fun _ _ _ _ h => (nomatch h), fun _ _ _ _ _ h => (nomatch h)⟩
  | n + 1 => by
    obtain ⟨h1, h2⟩ := both_sound hP hg n
    exact ⟨step_sound (i_sound hP.names hg h1 h2) (c_sound hP.names hg h1 h2) hP h1, stepD_sound (c_sound hP.names hg h1 h2) hP.names h1 h2⟩
/-- WHAT A RUN SHOWS -/
theorem fun_sound (hP : POk P) {g : PCon} (hg : PConOk P rd g) (n : Nat) {f : FuncId} {vs : List Value} {o : Out} (h : sxFun P rd g n f vs some = some o) : HasBody P f ∧ IRuns rd P f vs o := by
  obtain ⟨h1, h2⟩ := both_sound hP hg n (β := Out)
  obtain ⟨hb, o', h3, h4⟩ := enter_sound hP.names h1 h2 _ _ _ _ _ h
  cases h3
  exact ⟨hb, crun_irun h4⟩

/-- the end of a call that hands back a plain value -/
def OutE.end : OutE → Option Ending
  | .ret s => s.plain.map .returned
  | .pan s => s.plain.map fun v => .panicked [{ v := v, recovered := false }]
def sxEnd (P : Program) (rd : Rd) (g : PCon) (n : Nat) (f : FuncId) (vs : List Value) : Option Ending := sxEnter P rd (sxBoth P rd g n).1 (sxBoth P rd g n).2 f (vs.map .val) [] fun o => o.e.end
/-- a call comes to this, in whatever world, and touches nothing that was there -/
def Plain (P : Program) (f : FuncId) (vs : List Value) (e0 : Ending) : Prop := ∀ w, Calls P f vs.toArray w fun e w' => e = e0 ∧ Below w.heap.size w w'
theorem end_irun {f : FuncId} {vs : List Value} {o : Out} {e0 : Ending} (h : IRuns rd P f vs o) (he : o.e.end = some e0) {w : World} (hrd : rd.Ok w fun _ => False) : Calls P f vs.toArray w fun e w' => e = e0 ∧ Below w.heap.size w w' := by
  refine h w _ hrd fun ρ w' hm => ?_
  obtain ⟨e, m⟩ := o
  cases e with
  | ret s =>
    simp only [OutE.end, Option.map_eq_some_iff] at he
    obtain ⟨v, h1, rfl⟩ := he
    exact fun u hu => ⟨by rw [SV.plain_R s v u h1 hu], hm.stopIso⟩
  | pan s =>
    simp only [OutE.end, Option.map_eq_some_iff] at he
    obtain ⟨v, h1, rfl⟩ := he
    exact fun u hu => ⟨by rw [SV.plain_R s v u h1 hu], hm.stopIso⟩
theorem end_sound (hP : POk P) {g : PCon} (hg : PConOk P rd g) (n : Nat) {f : FuncId} {vs : List Value} {e0 : Ending} (h : sxEnd P rd g n f vs = some e0) {w : World} (hrd : rd.Ok w fun _ => False) :
    Calls P f vs.toArray w fun e w' => e = e0 ∧ Below w.heap.size w w' := by
  obtain ⟨h1, h2⟩ := both_sound hP hg n (β := Ending)
  obtain ⟨hb, o', h3, h4⟩ := enter_sound hP.names h1 h2 _ _ _ _ _ h
  exact end_irun (crun_irun h4) h3 hrd
/-- nothing is known of memory that came in -/
def Rd.no : Rd := ⟨fun _ => false, fun _ => default, fun _ _ => false, fun _ _ => 0, fun _ => false, fun _ => false, fun _ => false, fun _ => none, fun _ => 0, fun _ => 0⟩
theorem Rd.no_ok (w : World) (S : Nat → Prop) : Rd.no.Ok w S := ⟨fun _ h => (nomatch h), fun _ _ h => (nomatch h), fun _ h => (nomatch h), fun _ h => (nomatch h)⟩
theorem plain_sound (hP : POk P) {g : PCon} (hg : PConOk P Rd.no g) (n : Nat) {f : FuncId} {vs : List Value} {e0 : Ending} (h : sxEnd P Rd.no g n f vs = some e0) : Plain P f vs e0 :=
  fun w => end_sound hP hg n h (Rd.no_ok w _)
mutual
theorem SV.plain_self {ρ : Nat → Option Nat} : ∀ (x : SV) (v : Value), x.plain = some v → x.R ρ v
  | .val _, v, h => by
    simp only [SV.plain, Option.some.injEq] at h
    exact h.symm
  | .any, _, _ => trivial
  | .ptr _ _, _, h => by simp [SV.plain] at h
  | .sl _ _ _ _, _, h => by simp [SV.plain] at h
  | .mp _, _, h => by simp [SV.plain] at h
  | .agg l, v, h => by
    simp only [SV.plain, Option.map_eq_some_iff] at h
    obtain ⟨vs, h3, h4⟩ := h
    exact ⟨vs, h4.symm, SV.plainL_self l vs h3⟩
  | .tup l, v, h => by
    simp only [SV.plain, Option.map_eq_some_iff] at h
    obtain ⟨vs, h3, h4⟩ := h
    exact ⟨vs, h4.symm, SV.plainL_self l vs h3⟩
  | .clo fn l k, v, h => by
    simp only [SV.plain] at h
    split at h
    · rename_i us vs e1 e2
      cases h
      exact ⟨us, vs, rfl, SV.plainL_self l us e1, SV.plainL_self k vs e2⟩
    · cases h
theorem SV.plainL_self {ρ : Nat → Option Nat} : ∀ (l : List SV) (vs : List Value), SV.plainL l = some vs → SV.RL ρ l vs
  | [], vs, h => by
    simp only [SV.plainL, Option.some.injEq] at h
    exact h.symm
  | x :: l, vs, h => by
    simp only [SV.plainL] at h
    split at h
    · rename_i v vs' e1 e2
      cases h
      exact ⟨v, vs', rfl, SV.plain_self x v e1, SV.plainL_self l vs' e2⟩
    · cases h
end
/-- a contract on plain values -/
theorem Plain.irun {f : FuncId} {vs : List Value} {e0 : Ending} {e : OutE} (h : Plain P f vs e0) (he : e.end = some e0) : IRuns rd P f vs ⟨e, []⟩ := by
  intro w R hrd hfin
  refine (h w).mono ?_
  rintro e' w' ⟨rfl, hb⟩
  have hm : Mem (Env.iso rd w hrd) (fun _ => none) [] w' := (Mem.startIso hrd).below hb
  have := hfin _ w' hm
  cases e with
  | ret s =>
    simp only [OutE.end, Option.map_eq_some_iff] at he
    obtain ⟨v, h1, rfl⟩ := he
    exact this v (SV.plain_self s v h1)
  | pan s =>
    simp only [OutE.end, Option.map_eq_some_iff] at he
    obtain ⟨v, h1, rfl⟩ := he
    exact this v (SV.plain_self s v h1)
/-- tables of contracts that hand back plain values -/
abbrev ECon := FuncId → Option (List Value → R3 OutE)
def R3.map {α β : Type} (g : α → β) (x : R3 α) : R3 β := x.bind fun a => .ok (g a)
def ECon.p (g : ECon) : PCon := fun f => match g f with
  | some h => some fun vs => (h vs).map fun e => ⟨e, []⟩
  | none => none
def EConOk (P : Program) (g : ECon) : Prop := ∀ f h, g f = some h → HasBody P f ∧ ∀ vs e, (h vs).res = some e → ∃ e0, e.end = some e0 ∧ Plain P f vs e0
theorem ECon.ok {g : ECon} (hg : EConOk P g) : PConOk P rd g.p := by
  intro f h hf
  unfold ECon.p at hf
  split at hf
  · rename_i h' hh
    cases hf
    obtain ⟨hb, hc⟩ := hg f h' hh
    refine ⟨hb, fun vs o ho => ?_⟩
    obtain ⟨e, h1, h2⟩ := R3.bind_some _ _ _ ho
    cases h2
    obtain ⟨e0, h3, h4⟩ := hc vs e h1
    exact h4.irun h3
  · cases hf

end
end Go.SX
