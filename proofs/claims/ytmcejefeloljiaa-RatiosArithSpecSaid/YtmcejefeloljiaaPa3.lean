/-
  A symbolic executor: functions are as their runs show.
-/
import Derived.Test.YtmcejefeloljiaaPa2
import Derived.Test.YtmcejefeloljiaaRows
import Derived.WalkKit
import Derived.WalkSpells
import Derived.WalkLawsBesides
import Derived.Deep.QuietTactic
import Derived.BigQuiet
import Derived.Lib.Hide
import Derived.StillTailTactics
import Derived.Deep.RegionWith
import Derived.Deep.RegionHeld3
import Derived.Deep.RegionLaw
import Derived.RangeFuncNested
import Derived.RangeFuncBound
import Derived.RangeFuncCalls
import Derived.RangeFuncLeaves
import Derived.RangeFuncWrites
import Derived.Shelf.Abstract
import Derived.Shelf.RegionOpen
import Derived.OwnWalkIn
import Derived.TacticsInMore
import Derived.LoopNIn
import Derived.LoopIn
namespace Go.SX
open Go.RowKit

section
variable {E : Env} {P : Program} {rd : Rd} {ρ ρ' : Nat → Option Nat} {s s' : St} {a : Act} {w w' : World} {v : SV} {u : Value} {β : Type} {out : β} {Q : Exit → Act → World → Prop}

def FinOk (E : Env) (ρ : Nat → Option Nat) (o : Out) (R : Ending → World → Prop) : Prop := ∀ ρ' w', Le ρ ρ' → Mem E ρ' o.m w' → OutOk ρ' o R w'
theorem settle_to (md : Md) : settle md.to = (settleMd md).to := by cases md <;> rfl
theorem defers_sound (hN : NamesOk P) {recD : CodeD β} (hrecD : CodeDOk P rd recD) {fn : Func} {s0 : St} {kk : Out → Option β} : ∀ (ds : List SD) (m : List Blk) (md : Md), sxDefers P rd recD fn s0 kk ds m md = some out →
    ∃ o, kk o = some out ∧ ∀ E, E.rd = rd → ∀ ρ (tmps : Array Value) (D : List Deferred) w R, (∃ us, tmps = us.toArray ∧ SV.RL ρ s0.t us) → DL ρ ds D → Mem E ρ m w → FinOk E ρ o R → Leaves P fn tmps R D md.to w
  | [], m, .ret, h => by
    simp only [sxDefers] at h
    split at h
    · rename_i v hv
      refine ⟨_, h, fun E hE ρ tmps D w R ht hd hm hfin => ?_⟩
      subst hE
      rw [DL] at hd
      subst hd
      have hr : Rep E ρ { s0 with m := m, d := [] } { tmps := tmps, defers := [] } w := ⟨ht, rfl, hm⟩
      have hv' : sxResults P E.rd { s0 with m := m, d := [] } fn = some v := hv
      obtain ⟨u, h1, h2⟩ := results_run (P := P) hr hv'
      exact ⟨u, h1, hfin ρ w (Le.refl _) hm u h2⟩
    · cases h
  | [], m, .pan v, h => by
    refine ⟨_, h, fun E _ ρ tmps D w R _ hd hm hfin => ?_⟩
    rw [DL] at hd
    subst hd
    exact hfin ρ w (Le.refl _) hm v rfl
  | [], m, .gone v, h => by simp [sxDefers] at h
  | d :: ds, m, md, h => by
    simp only [sxDefers] at h
    split at h
    · rename_i g hg
      split at h
      · rename_i c hc
        obtain ⟨e, s1, md1, h1, h2⟩ := hrecD _ _ _ _ _ h
        have fin : ∀ (md2 : Md) (o : Out), (∀ E, E.rd = rd → ∀ ρ (tmps : Array Value) (D : List Deferred) w R, (∃ us, tmps = us.toArray ∧ SV.RL ρ s0.t us) → DL ρ ds D → Mem E ρ s1.m w → FinOk E ρ o R → Leaves P fn tmps R D md2.to w) →
            s1.d = [] → (match e with | .normal => md2 = settleMd md1 ∧ (sxResults P rd s1 g).isSome | .ret => md2 = settleMd md1 ∧ (sxResults P rd s1 g).isSome | .panic v => md1 = .ret ∧ ∃ u, v.plain = some u ∧ md2 = .pan u | .exit _ => False) →
            ∀ E, E.rd = rd → ∀ ρ (tmps : Array Value) (D : List Deferred) w R, (∃ us, tmps = us.toArray ∧ SV.RL ρ s0.t us) → DL ρ (d :: ds) D → Mem E ρ m w → FinOk E ρ o R → Leaves P fn tmps R D md.to w := by
          intro md2 o hrest hsd he E hE ρ tmps D w R ht hd hm hfin
          obtain ⟨D1, D', rfl, ⟨cs, az, rfl, hcs, has⟩, hD'⟩ := hd
          have hrun : md.to ≠ .run := by cases md <;> simp [Md.to]
          have hbody : g.body.isSome = true := by rw [hc]; rfl
          have hn := hN _ _ hg hbody
          have hn' : g.body.isNone = false := by rw [hc]; rfl
          have hinv : (invoke (.fn (.func d.f) cs.toArray) az.toArray).run P w = .ok (.enter d.f (az.toArray ++ cs.toArray)) w := by
            simp only [invoke, callFunc, program, Sem.run_bind, Sem.run, Result.andThen_ok, hg, hn, hn', Bool.false_eq_true, if_false, Sem.run_pure]
          refine leaves_cons hrun hinv (callsD_of_wpS hg hc fun c₀ cs0 hu => ?_)
          refine h2 E hE ρ _ w c₀ cs0 _ hu ⟨⟨az ++ cs ++ List.replicate (g.ntmps - (az ++ cs).length) undef, by apply Array.toList_inj.1; simp, ?_⟩, rfl, hm⟩ ?_
          · have hlen : (az ++ cs).length = (d.args ++ d.caps).length := by rw [List.length_append, List.length_append, has.length, hcs.length]
            rw [hlen]
            exact (has.append hcs).append (SV.RL.replicate undef _)
          · intro ρ' a' w' hl hr'
            have hdef : a'.defers = [] := by
              have := hr'.d
              rw [hsd, DL] at this
              exact this
            have ht' : ∃ us, tmps = us.toArray ∧ SV.RL ρ' s0.t us := by
              obtain ⟨us, h3, h4⟩ := ht
              exact ⟨us, h3, h4.pre hl⟩
            have hfin' : FinOk E ρ' o R := fun ρ2 w2 hl2 hm2 => hfin ρ2 w2 (hl.trans hl2) hm2
            have hlv := hrest E hE ρ' tmps D' w' R ht' (hD'.pre hl) hr'.m hfin'
            have retd : (sxResults P rd s1 g).isSome → md2 = settleMd md1 → bodyPostS P g c₀ cs0 (fun
                | .returned _, u', w' => Leaves P fn tmps R D' (settle u') w'
                | .panicked chain, u', w' => Leaves P fn tmps R D' (raised u' chain) w'
                | .outgrown, _, w' => R .outgrown w') .ret a' ({ c₀ with mode := md1.to } :: cs0) w' := fun hres hmd => by
              obtain ⟨v, hv⟩ := Option.isSome_iff_exists.1 hres
              subst hE
              obtain ⟨u, h3, _⟩ := results_run (P := P) hr' hv
              refine ⟨hdef, md1.to, rfl, u, h3, ?_⟩
              show Leaves P fn tmps R D' (settle md1.to) w'
              rw [settle_to, ← hmd]
              exact hlv
            cases e with
            | normal => exact retd he.2 he.1
            | ret => exact retd he.2 he.1
            | exit i => exact he.elim
            | panic v =>
              obtain ⟨rfl, u, hu2, rfl⟩ := he
              intro x hx
              have : x = u := SV.plain_R _ _ _ hu2 hx
              subst this
              exact ⟨hdef, Md.ret.to, rfl, hlv⟩
        cases hsd : s1.d with
        | cons x y => rw [hsd] at h1; cases e <;> cases h1
        | nil =>
          rw [hsd] at h1
          cases e with
          | normal =>
            simp only at h1
            split at h1
            · rename_i v hv
              obtain ⟨o, h3, h4⟩ := defers_sound hN hrecD ds _ _ h1
              exact ⟨o, h3, fin _ o h4 hsd ⟨rfl, by rw [hv]; rfl⟩⟩
            · cases h1
          | ret =>
            simp only at h1
            split at h1
            · rename_i v hv
              obtain ⟨o, h3, h4⟩ := defers_sound hN hrecD ds _ _ h1
              exact ⟨o, h3, fin _ o h4 hsd ⟨rfl, by rw [hv]; rfl⟩⟩
            · cases h1
          | exit i => cases h1
          | panic v =>
            simp only at h1
            cases md1 with
            | pan x => cases h1
            | gone x => cases h1
            | ret =>
              cases hu : v.plain with
              | none => rw [hu] at h1; cases h1
              | some u =>
                rw [hu] at h1
                obtain ⟨o, h3, h4⟩ := defers_sound hN hrecD ds _ _ h1
                exact ⟨o, h3, fin _ o h4 hsd ⟨rfl, u, hu, rfl⟩⟩
      · cases h
    · cases h

theorem enter_sound (hN : NamesOk P) {rec : CodeK β} (hrec : CodeOk P rd rec) {recD : CodeD β} (hrecD : CodeDOk P rd recD) : CallOk rd P (sxEnter P rd rec recD) := by
  intro f args m kk out h
  unfold sxEnter at h
  split at h
  · rename_i fn hf
    split at h
    · rename_i c hb
      obtain ⟨e, s1, h1, h2⟩ := hrec _ _ _ _ h
      refine ⟨⟨fn, hf, by rw [hb]; rfl⟩, ?_⟩
      have fin : ∀ (md : Md) (o : Out), (∀ E, E.rd = rd → ∀ ρ (tmps : Array Value) (D : List Deferred) w R, (∃ us, tmps = us.toArray ∧ SV.RL ρ s1.t us) → DL ρ s1.d D → Mem E ρ s1.m w → FinOk E ρ o R → Leaves P fn tmps R D md.to w) →
          (match e with | .normal => md = .ret | .ret => md = .ret | .panic v => ∃ u, v.plain = some u ∧ md = .pan u | .exit _ => False) → CRuns rd P f args m o := by
        intro md o hd he E hE ρ w us R hm hargs hfin
        refine calls_of_wp_defers hf hb (h2 E hE ρ _ w _ ⟨⟨us ++ List.replicate (fn.ntmps - args.length) undef, ?_, ?_⟩, rfl, hm⟩ ?_)
        · apply Array.toList_inj.1
          simp [hargs.length]
        · exact hargs.append (SV.RL.replicate undef _)
        · intro ρ' a' w' hl hr'
          have hlv := hd E hE ρ' a'.tmps a'.defers w' R hr'.t hr'.d hr'.m fun ρ2 w2 hl2 hm2 => hfin ρ2 w2 (hl.trans hl2) hm2
          cases e with
          | normal => subst he; exact hlv
          | ret => subst he; exact hlv
          | exit i => exact he.elim
          | panic v =>
            obtain ⟨u, hu, rfl⟩ := he
            intro x hx
            have : x = u := SV.plain_R _ _ _ hu hx
            subst this
            exact hlv
      cases e with
      | normal =>
        obtain ⟨o, h3, h4⟩ := defers_sound hN hrecD _ _ _ h1
        exact ⟨o, h3, fin _ o h4 rfl⟩
      | ret =>
        obtain ⟨o, h3, h4⟩ := defers_sound hN hrecD _ _ _ h1
        exact ⟨o, h3, fin _ o h4 rfl⟩
      | panic v =>
        simp only at h1
        split at h1
        · rename_i u hu
          obtain ⟨o, h3, h4⟩ := defers_sound hN hrecD _ _ _ h1
          exact ⟨o, h3, fin _ o h4 ⟨u, hu, rfl⟩⟩
        · cases h1
      | exit i => cases h1
    · cases h
  · cases h

theorem join_sound {f : FuncId} {vs : List Value} {o : Out} (h : IRuns rd P f vs o) {args : List SV} (hargs : SV.plainL args = some vs) (m : List Blk) : CRuns rd P f args m (o.join m) := by
  intro E hE ρ w us R hm hr hfin
  have : us = vs := SV.plainL_R _ _ _ hargs hr
  subst this
  have hrd : rd.Ok w fun _ => False := by subst hE; exact hm.kept.read
  refine h w R hrd fun ρ1 w' h1 => ?_
  have hp := hm.below h1.stopIso
  have hs := hm.beside h1
  obtain ⟨e, m1⟩ := o
  cases e with
  | ret v =>
    intro x hx
    cases hv : v.plain with
    | some u =>
      have hj : Out.join ⟨.ret v, m1⟩ m = ⟨.ret (.val u), m⟩ := by simp only [Out.join, hv]
      rw [hj] at hfin
      exact hfin ρ w' (Le.refl _) hp x (SV.plain_R _ _ _ hv hx)
    | none =>
      have hj : Out.join ⟨.ret v, m1⟩ m = ⟨.ret (v.shift m.length), m ++ m1.map (Blk.shift m.length)⟩ := by simp only [Out.join, hv]
      rw [hj] at hfin
      exact hfin _ w' (beside_le hm) hs x (shift_R v x hx)
  | pan v =>
    intro x hx
    cases hv : v.plain with
    | some u =>
      have hj : Out.join ⟨.pan v, m1⟩ m = ⟨.pan (.val u), m⟩ := by simp only [Out.join, hv]
      rw [hj] at hfin
      exact hfin ρ w' (Le.refl _) hp x (SV.plain_R _ _ _ hv hx)
    | none =>
      have hj : Out.join ⟨.pan v, m1⟩ m = ⟨.pan (v.shift m.length), m ++ m1.map (Blk.shift m.length)⟩ := by simp only [Out.join, hv]
      rw [hj] at hfin
      exact hfin _ w' (beside_le hm) hs x (shift_R v x hx)

/-- contracts hold -/
def PConOk (P : Program) (rd : Rd) (g : PCon) : Prop :=
  ∀ f h, g f = some h → HasBody P f ∧ ∀ vs o, (h vs).res = some o → IRuns rd P f vs o
theorem crun_irun {f : FuncId} {vs : List Value} {o : Out} (h : CRuns rd P f (vs.map .val) [] o) : IRuns rd P f vs o := fun w R hrd hfin =>
  h (Env.iso rd w hrd) rfl (fun _ => none) w vs R (Mem.startIso hrd) (SV.RL.vals vs) fun ρ' w' _ hm => hfin ρ' w' hm
theorem i_sound (hN : NamesOk P) {g : PCon} (hg : PConOk P rd g) {rec : CodeK β} (hrec : CodeOk P rd rec) {recD : CodeD β} (hrecD : CodeDOk P rd recD) : ICallOk rd P (sxI P rd g rec recD) := by
  intro f vs kk out h
  unfold sxI at h
  split at h
  · rename_i hh hf
    obtain ⟨hb, hc⟩ := hg f hh hf
    obtain ⟨o, h1, h2⟩ := R3.k_some _ _ _ h
    exact ⟨hb, o, h2, hc vs o h1⟩
  · obtain ⟨hb, o, h1, h2⟩ := enter_sound hN hrec hrecD _ _ _ _ _ h
    exact ⟨hb, o, h1, crun_irun h2⟩
theorem c_sound (hN : NamesOk P) {g : PCon} (hg : PConOk P rd g) {rec : CodeK β} (hrec : CodeOk P rd rec) {recD : CodeD β} (hrecD : CodeDOk P rd recD) : CallOk rd P (sxC P rd g rec recD) := by
  intro f args m kk out h
  unfold sxC at h
  split at h
  · rename_i vs hvs
    obtain ⟨hb, o, h1, h2⟩ := i_sound hN hg hrec hrecD _ _ _ _ h
    exact ⟨hb, _, h1, join_sound h2 hvs m⟩
  · exact enter_sound hN hrec hrecD _ _ _ _ _ h
theorem both_sound (hP : POk P) {g : PCon} (hg : PConOk P rd g) : ∀ n : Nat, CodeOk P rd (sxBoth P rd g n (β := β)).1 ∧ CodeDOk P rd (sxBoth P rd g n (β := β)).2
  | 0 => ⟨fun _ _ _ _ h => (nomatch h), fun _ _ _ _ _ h => (nomatch h)⟩
  | n + 1 => by
    obtain ⟨h1, h2⟩ := both_sound hP hg n
    exact ⟨step_sound (i_sound hP.names hg h1 h2) (c_sound hP.names hg h1 h2) hP h1, stepD_sound (c_sound hP.names hg h1 h2) hP.names h1 h2⟩
/-- WHAT A RUN SHOWS -/
theorem fun_sound (hP : POk P) {g : PCon} (hg : PConOk P rd g) (n : Nat) {f : FuncId} {vs : List Value} {o : Out} (h : sxFun P rd g n f vs some = some o) : HasBody P f ∧ IRuns rd P f vs o := by
  obtain ⟨h1, h2⟩ := both_sound hP hg n (β := Out)
  obtain ⟨hb, o', h3, h4⟩ := enter_sound hP.names h1 h2 _ _ _ _ _ h
  cases h3
  exact ⟨hb, crun_irun h4⟩

/-- the end of a call that hands back a plain value -/
def OutE.end : OutE → Option Ending
  | .ret s => s.plain.map .returned
  | .pan s => s.plain.map fun v => .panicked [{ v := v, recovered := false }]
def sxEnd (P : Program) (rd : Rd) (g : PCon) (n : Nat) (f : FuncId) (vs : List Value) : Option Ending := sxEnter P rd (sxBoth P rd g n).1 (sxBoth P rd g n).2 f (vs.map .val) [] fun o => o.e.end
/-- a call comes to this, in whatever world, and touches nothing that was there -/
def Plain (P : Program) (f : FuncId) (vs : List Value) (e0 : Ending) : Prop := ∀ w, Calls P f vs.toArray w fun e w' => e = e0 ∧ Below w.heap.size w w'
theorem end_irun {f : FuncId} {vs : List Value} {o : Out} {e0 : Ending} (h : IRuns rd P f vs o) (he : o.e.end = some e0) {w : World} (hrd : rd.Ok w fun _ => False) : Calls P f vs.toArray w fun e w' => e = e0 ∧ Below w.heap.size w w' := by
  refine h w _ hrd fun ρ w' hm => ?_
  obtain ⟨e, m⟩ := o
  cases e with
  | ret s =>
    simp only [OutE.end, Option.map_eq_some_iff] at he
    obtain ⟨v, h1, rfl⟩ := he
    exact fun u hu => ⟨by rw [SV.plain_R s v u h1 hu], hm.stopIso⟩
  | pan s =>
    simp only [OutE.end, Option.map_eq_some_iff] at he
    obtain ⟨v, h1, rfl⟩ := he
    exact fun u hu => ⟨by rw [SV.plain_R s v u h1 hu], hm.stopIso⟩
theorem end_sound (hP : POk P) {g : PCon} (hg : PConOk P rd g) (n : Nat) {f : FuncId} {vs : List Value} {e0 : Ending} (h : sxEnd P rd g n f vs = some e0) {w : World} (hrd : rd.Ok w fun _ => False) :
    Calls P f vs.toArray w fun e w' => e = e0 ∧ Below w.heap.size w w' := by
  obtain ⟨h1, h2⟩ := both_sound hP hg n (β := Ending)
  obtain ⟨hb, o', h3, h4⟩ := enter_sound hP.names h1 h2 _ _ _ _ _ h
  exact end_irun (crun_irun h4) h3 hrd
/-- nothing is known of memory that came in -/
def Rd.no : Rd := ⟨fun _ => false, fun _ => default, fun _ _ => false, fun _ _ => 0, fun _ => false, fun _ => false, fun _ => false, fun _ => none, fun _ => 0, fun _ => 0⟩
theorem Rd.no_ok (w : World) (S : Nat → Prop) : Rd.no.Ok w S := ⟨fun _ h => (nomatch h), fun _ _ h => (nomatch h), fun _ h => (nomatch h), fun _ h => (nomatch h)⟩
theorem plain_sound (hP : POk P) {g : PCon} (hg : PConOk P Rd.no g) (n : Nat) {f : FuncId} {vs : List Value} {e0 : Ending} (h : sxEnd P Rd.no g n f vs = some e0) : Plain P f vs e0 :=
  fun w => end_sound hP hg n h (Rd.no_ok w _)
mutual
theorem SV.plain_self {ρ : Nat → Option Nat} : ∀ (x : SV) (v : Value), x.plain = some v → x.R ρ v
  | .val _, v, h => by
    simp only [SV.plain, Option.some.injEq] at h
    exact h.symm
  | .any, _, _ => trivial
  | .ptr _ _, _, h => by simp [SV.plain] at h
  | .sl _ _ _ _, _, h => by simp [SV.plain] at h
  | .mp _, _, h => by simp [SV.plain] at h
  | .agg l, v, h => by
    simp only [SV.plain, Option.map_eq_some_iff] at h
    obtain ⟨vs, h3, h4⟩ := h
    exact ⟨vs, h4.symm, SV.plainL_self l vs h3⟩
  | .tup l, v, h => by
    simp only [SV.plain, Option.map_eq_some_iff] at h
    obtain ⟨vs, h3, h4⟩ := h
    exact ⟨vs, h4.symm, SV.plainL_self l vs h3⟩
  | .clo fn l k, v, h => by
    simp only [SV.plain] at h
    split at h
    · rename_i us vs e1 e2
      cases h
      exact ⟨us, vs, rfl, SV.plainL_self l us e1, SV.plainL_self k vs e2⟩
    · cases h
theorem SV.plainL_self {ρ : Nat → Option Nat} : ∀ (l : List SV) (vs : List Value), SV.plainL l = some vs → SV.RL ρ l vs
  | [], vs, h => by
    simp only [SV.plainL, Option.some.injEq] at h
    exact h.symm
  | x :: l, vs, h => by
    simp only [SV.plainL] at h
    split at h
    · rename_i v vs' e1 e2
      cases h
      exact ⟨v, vs', rfl, SV.plain_self x v e1, SV.plainL_self l vs' e2⟩
    · cases h
end
/-- a contract on plain values -/
theorem Plain.irun {f : FuncId} {vs : List Value} {e0 : Ending} {e : OutE} (h : Plain P f vs e0) (he : e.end = some e0) : IRuns rd P f vs ⟨e, []⟩ := by
  intro w R hrd hfin
  refine (h w).mono ?_
  rintro e' w' ⟨rfl, hb⟩
  have hm : Mem (Env.iso rd w hrd) (fun _ => none) [] w' := (Mem.startIso hrd).below hb
  have := hfin _ w' hm
  cases e with
  | ret s =>
    simp only [OutE.end, Option.map_eq_some_iff] at he
    obtain ⟨v, h1, rfl⟩ := he
    exact this v (SV.plain_self s v h1)
  | pan s =>
    simp only [OutE.end, Option.map_eq_some_iff] at he
    obtain ⟨v, h1, rfl⟩ := he
    exact this v (SV.plain_self s v h1)
/-- tables of contracts that hand back plain values -/
abbrev ECon := FuncId → Option (List Value → R3 OutE)
def R3.map {α β : Type} (g : α → β) (x : R3 α) : R3 β := x.bind fun a => .ok (g a)
def ECon.p (g : ECon) : PCon := fun f => match g f with
  | some h => some fun vs => (h vs).map fun e => ⟨e, []⟩
  | none => none
def EConOk (P : Program) (g : ECon) : Prop := ∀ f h, g f = some h → HasBody P f ∧ ∀ vs e, (h vs).res = some e → ∃ e0, e.end = some e0 ∧ Plain P f vs e0
theorem ECon.ok {g : ECon} (hg : EConOk P g) : PConOk P rd g.p := by
  intro f h hf
  unfold ECon.p at hf
  split at hf
  · rename_i h' hh
    cases hf
    obtain ⟨hb, hc⟩ := hg f h' hh
    refine ⟨hb, fun vs o ho => ?_⟩
    obtain ⟨e, h1, h2⟩ := R3.bind_some _ _ _ ho
    cases h2
    obtain ⟨e0, h3, h4⟩ := hc vs e h1
    exact h4.irun h3
  · cases hf

end
end Go.SX

/-
  Plain numbers: base 256 texts (most significant byte first) and base 2^32 digits (least significant first).
-/
namespace Go.Proofs.Ytmcejefeloljiaa.Nm

/-! ### texts to the base 256 -/
def val (l : List UInt8) : Nat := l.foldl (fun a b => a * 256 + b.toNat) 0
def natl : List UInt8 → Bool
  | [] => true
  | b :: _ => b != 0
def encF : Nat → Nat → List UInt8
  | 0, _ => []
  | f + 1, n => if n = 0 then [] else encF f (n / 256) ++ [UInt8.ofNat (n % 256)]
def enc (n : Nat) : List UInt8 := encF n n

theorem foldl_val (l : List UInt8) : ∀ a, l.foldl (fun a b => a * 256 + b.toNat) a = a * 256 ^ l.length + val l := by
  induction l with
  | nil => intro a; simp [val]
  | cons b l ih =>
    intro a
    simp only [List.foldl_cons, val, List.length_cons]
    rw [ih, ih (0 * 256 + b.toNat)]
    rw [Nat.pow_succ, Nat.add_mul]
    simp only [Nat.zero_mul, Nat.zero_add]
    have : a * 256 * 256 ^ l.length = a * (256 ^ l.length * 256) := by rw [Nat.mul_assoc, Nat.mul_comm 256]
    omega

theorem val_nil : val [] = 0 := rfl
theorem val_cons (b : UInt8) (l : List UInt8) : val (b :: l) = b.toNat * 256 ^ l.length + val l := by
  unfold val; rw [List.foldl_cons, foldl_val]; simp [val]
theorem val_append (l m : List UInt8) : val (l ++ m) = val l * 256 ^ m.length + val m := by
  unfold val; rw [List.foldl_append, foldl_val]; rfl
theorem val_snoc (l : List UInt8) (b : UInt8) : val (l ++ [b]) = val l * 256 + b.toNat := by
  rw [val_append]; simp [val_cons, val_nil]
theorem val_lt (l : List UInt8) : val l < 256 ^ l.length := by
  induction l with
  | nil => simp [val]
  | cons b l ih =>
    rw [val_cons, List.length_cons, Nat.pow_succ]
    have hb := b.toNat_lt
    have h : b.toNat * 256 ^ l.length ≤ 255 * 256 ^ l.length := Nat.mul_le_mul_right _ (by omega)
    omega

theorem encF_zero (f : Nat) : encF f 0 = [] := by cases f <;> simp [encF]
theorem encF_enough : ∀ (n f g : Nat), n ≤ f → n ≤ g → encF f n = encF g n := by
  intro n
  induction n using Nat.strongRecOn with
  | _ n ih =>
    intro f g hf hg
    by_cases h0 : n = 0
    · subst h0; rw [encF_zero, encF_zero]
    · obtain ⟨f, rfl⟩ : ∃ k, f = k + 1 := ⟨f - 1, by omega⟩
      obtain ⟨g, rfl⟩ : ∃ k, g = k + 1 := ⟨g - 1, by omega⟩
      have hd : n / 256 < n := Nat.div_lt_self (by omega) (by omega)
      simp only [encF, h0, if_false]
      rw [ih (n / 256) hd f g (by omega) (by omega)]
theorem enc_zero : enc 0 = [] := rfl
theorem enc_pos (n : Nat) (h : 0 < n) : enc n = enc (n / 256) ++ [UInt8.ofNat (n % 256)] := by
  unfold enc
  obtain ⟨k, rfl⟩ : ∃ k, n = k + 1 := ⟨n - 1, by omega⟩
  have hd : (k + 1) / 256 < k + 1 := Nat.div_lt_self (by omega) (by omega)
  simp only [encF, Nat.add_eq_zero_iff, Nat.succ_ne_self, and_false, if_false]
  rw [encF_enough ((k + 1) / 256) k ((k + 1) / 256) (by omega) (Nat.le_refl _)]
/-- one digit more behind: nothing is written while nothing has been -/
theorem enc_step (m d : Nat) (hd : d < 256) : enc (m * 256 + d) = if m = 0 ∧ d = 0 then [] else enc m ++ [UInt8.ofNat d] := by
  by_cases h : m = 0 ∧ d = 0
  · obtain ⟨rfl, rfl⟩ := h; simp [enc_zero]
  · rw [if_neg h, enc_pos _ (by omega)]
    rw [show (m * 256 + d) / 256 = m by omega, show (m * 256 + d) % 256 = d by omega]
theorem val_enc (n : Nat) : val (enc n) = n := by
  induction n using Nat.strongRecOn with
  | _ n ih =>
    by_cases h0 : n = 0
    · subst h0; rfl
    · rw [enc_pos n (by omega), val_snoc, ih (n / 256) (Nat.div_lt_self (by omega) (by omega))]
      have : (UInt8.ofNat (n % 256)).toNat = n % 256 := by simp
      omega
theorem enc_ne_nil (n : Nat) (h : 0 < n) : enc n ≠ [] := by rw [enc_pos n h]; simp
theorem natl_enc (n : Nat) : natl (enc n) = true := by
  induction n using Nat.strongRecOn with
  | _ n ih =>
    by_cases h0 : n = 0
    · subst h0; rfl
    · rw [enc_pos n (by omega)]
      by_cases h1 : n / 256 = 0
      · rw [h1, enc_zero]
        simp only [List.nil_append, natl, bne_iff_ne]
        intro h
        have := congrArg UInt8.toNat h
        simp at this
        omega
      · have := ih (n / 256) (Nat.div_lt_self (by omega) (by omega))
        cases he : enc (n / 256) with
        | nil => exact absurd he (enc_ne_nil _ (by omega))
        | cons b l => rw [he] at this; simpa [natl] using this
theorem natl_snoc (l : List UInt8) (b : UInt8) (h : natl (l ++ [b]) = true) : natl l = true ∧ (l = [] → b ≠ 0) := by
  cases l with
  | nil => simp [natl] at h ⊢; exact h
  | cons c l => simp [natl] at h ⊢; exact h
/-- recursion from the list's end -/
theorem snoc_rec {α : Type} {p : List α → Prop} (h0 : p []) (hs : ∀ l b, p l → p (l ++ [b])) : ∀ l, p l := by
  intro l
  have key : ∀ n (l : List α), l.length = n → p l := by
    intro n
    induction n with
    | zero => intro l hl; rw [List.eq_nil_of_length_eq_zero hl]; exact h0
    | succ n ih =>
      intro l hl
      have hne : l ≠ [] := by intro h; subst h; simp at hl
      rw [← List.dropLast_concat_getLast hne]
      exact hs _ _ (ih _ (by simp [hl]))
  exact key _ l rfl
theorem enc_val : ∀ l : List UInt8, natl l = true → enc (val l) = l := by
  refine snoc_rec ?_ ?_
  · intro _; rfl
  · intro l b ih h
    obtain ⟨h1, h2⟩ := natl_snoc l b h
    rw [val_snoc, enc_step _ _ b.toNat_lt, ih h1]
    have hb : UInt8.ofNat b.toNat = b := by simp
    rw [hb, if_neg]
    rintro ⟨hv, hb0⟩
    have hl : l = [] := by rw [← ih h1, hv, enc_zero]
    exact h2 hl (by rw [← hb, hb0]; rfl)
theorem enc_length_le (n k : Nat) : (enc n).length ≤ k ↔ n < 256 ^ k := by
  induction k generalizing n with
  | zero =>
    by_cases h : n = 0
    · subst h; simp [enc_zero]
    · have := enc_ne_nil n (by omega)
      have : 0 < (enc n).length := List.length_pos_iff.2 this
      rw [Nat.pow_zero]; omega
  | succ k ih =>
    by_cases h : n = 0
    · subst h; simp [enc_zero, Nat.pow_pos]
    · rw [enc_pos n (by omega), List.length_append, List.length_singleton, Nat.pow_succ]
      have := ih (n / 256)
      rw [Nat.div_lt_iff_lt_mul (by omega)] at this
      omega
theorem enc_inj {a b : Nat} (h : enc a = enc b) : a = b := by rw [← val_enc a, h, val_enc]
theorem val_inj {a b : List UInt8} (ha : natl a = true) (hb : natl b = true) (h : val a = val b) : a = b := by rw [← enc_val a ha, h, enc_val b hb]
theorem val_lt_of_length (l : List UInt8) (k : Nat) (h : l.length ≤ k) : val l < 256 ^ k :=
  Nat.lt_of_lt_of_le (val_lt l) (Nat.pow_le_pow_right (by omega) h)
theorem length_le_of_val (l : List UInt8) (hn : natl l = true) (k : Nat) (h : val l < 256 ^ k) : l.length ≤ k := by
  rw [← enc_val l hn]; exact (enc_length_le _ _).2 h
theorem val_eq_zero (l : List UInt8) (hn : natl l = true) : val l = 0 ↔ l = [] := by
  constructor
  · intro h; rw [← enc_val l hn, h]; rfl
  · intro h; rw [h]; rfl

/-! ### digits to the base 2^32 -/
def B32 : Nat := 4294967296
def dv : List Nat → Nat
  | [] => 0
  | d :: l => d + B32 * dv l
def small (l : List Nat) : Prop := ∀ x ∈ l, x < B32
def digF : Nat → Nat → List Nat
  | 0, _ => []
  | f + 1, n => if n = 0 then [] else (n % B32) :: digF f (n / B32)
def digs (n : Nat) : List Nat := digF n n

theorem digF_zero (f : Nat) : digF f 0 = [] := by cases f <;> simp [digF]
theorem digF_enough : ∀ (n f g : Nat), n ≤ f → n ≤ g → digF f n = digF g n := by
  intro n
  induction n using Nat.strongRecOn with
  | _ n ih =>
    intro f g hf hg
    by_cases h0 : n = 0
    · subst h0; rw [digF_zero, digF_zero]
    · obtain ⟨f, rfl⟩ : ∃ k, f = k + 1 := ⟨f - 1, by omega⟩
      obtain ⟨g, rfl⟩ : ∃ k, g = k + 1 := ⟨g - 1, by omega⟩
      have hd : n / B32 < n := Nat.div_lt_self (by omega) (by unfold B32; omega)
      simp only [digF, h0, if_false]
      rw [ih (n / B32) hd f g (by omega) (by omega)]
theorem digs_zero : digs 0 = [] := rfl
theorem digs_pos (n : Nat) (h : 0 < n) : digs n = (n % B32) :: digs (n / B32) := by
  unfold digs
  obtain ⟨k, rfl⟩ : ∃ k, n = k + 1 := ⟨n - 1, by omega⟩
  have hd : (k + 1) / B32 < k + 1 := Nat.div_lt_self (by omega) (by unfold B32; omega)
  simp only [digF, Nat.add_eq_zero_iff, Nat.succ_ne_self, and_false, if_false]
  rw [digF_enough ((k + 1) / B32) k ((k + 1) / B32) (by omega) (Nat.le_refl _)]
theorem dv_digs (n : Nat) : dv (digs n) = n := by
  induction n using Nat.strongRecOn with
  | _ n ih =>
    by_cases h0 : n = 0
    · subst h0; rfl
    · rw [digs_pos n (by omega), dv, ih (n / B32) (Nat.div_lt_self (by omega) (by unfold B32; omega))]
      exact Nat.mod_add_div n B32
theorem small_digs (n : Nat) : small (digs n) := by
  induction n using Nat.strongRecOn with
  | _ n ih =>
    by_cases h0 : n = 0
    · subst h0; intro x hx; simp [digs_zero] at hx
    · rw [digs_pos n (by omega)]
      intro x hx
      rcases List.mem_cons.1 hx with rfl | hx
      · exact Nat.mod_lt _ (by unfold B32; omega)
      · exact ih (n / B32) (Nat.div_lt_self (by omega) (by unfold B32; omega)) x hx
theorem digs_cons (d n : Nat) (hd : d < B32) (h : 0 < d ∨ 0 < n) : digs (d + B32 * n) = d :: digs n := by
  have hB : 0 < B32 := by unfold B32; omega
  have hp : 0 < d + B32 * n := by
    rcases h with h | h
    · omega
    · have := Nat.mul_pos hB h; omega
  rw [digs_pos _ hp, Nat.add_mul_mod_self_left, Nat.mod_eq_of_lt hd, Nat.add_mul_div_left _ _ hB, Nat.div_eq_of_lt hd, Nat.zero_add]
/-- zeros behind the most significant digit -/
def trimL (l : List Nat) : List Nat := digs (dv l)
theorem small_tail {d : Nat} {l : List Nat} (h : small (d :: l)) : d < B32 ∧ small l := ⟨h d (by simp), fun x hx => h x (by simp [hx])⟩
theorem dv_eq_zero : ∀ l : List Nat, dv l = 0 → l = List.replicate l.length 0
  | [], _ => rfl
  | d :: l, h => by
    have hB : 0 < B32 := by unfold B32; omega
    simp only [dv] at h
    have h1 : d = 0 := by omega
    have h2 : dv l = 0 := by
      rcases Nat.eq_zero_or_pos (dv l) with h2 | h2
      · exact h2
      · have := Nat.mul_pos hB h2; omega
    subst h1
    have := dv_eq_zero l h2
    simp only [List.length_cons, List.replicate_succ]
    rw [← this]
theorem trim_split : ∀ l : List Nat, small l → l = digs (dv l) ++ List.replicate (l.length - (digs (dv l)).length) 0 ∧ (digs (dv l)).length ≤ l.length
  | [], _ => by simp [dv, digs_zero]
  | d :: l, h => by
    obtain ⟨h1, h2⟩ := small_tail h
    obtain ⟨i1, i2⟩ := trim_split l h2
    by_cases hz : d = 0 ∧ dv l = 0
    · obtain ⟨rfl, h3⟩ := hz
      have := dv_eq_zero l h3
      simp only [dv, h3, digs_zero, Nat.mul_zero, Nat.add_zero, List.nil_append, List.length_nil, Nat.sub_zero, List.length_cons, List.replicate_succ, Nat.zero_le, and_true]
      rw [← this]
    · have hp : 0 < d ∨ 0 < dv l := by omega
      simp only [dv]
      rw [digs_cons d (dv l) h1 hp]
      simp only [List.length_cons, List.cons_append, List.cons.injEq, true_and]
      exact ⟨by rw [show l.length + 1 - ((digs (dv l)).length + 1) = l.length - (digs (dv l)).length by omega]; exact i1, by omega⟩
theorem dv_append (l m : List Nat) : dv (l ++ m) = dv l + B32 ^ l.length * dv m := by
  induction l with
  | nil => simp [dv]
  | cons d l ih =>
    simp only [List.cons_append, dv, ih, List.length_cons, Nat.pow_succ]
    rw [Nat.mul_add, ← Nat.mul_assoc, Nat.mul_comm B32 (B32 ^ l.length)]
    omega
theorem dv_lt (l : List Nat) (h : small l) : dv l < B32 ^ l.length := by
  induction l with
  | nil => simp [dv]
  | cons d l ih =>
    obtain ⟨h1, h2⟩ := small_tail h
    have := ih h2
    simp only [dv, List.length_cons, Nat.pow_succ]
    have h3 : B32 * (dv l + 1) ≤ B32 * B32 ^ l.length := Nat.mul_le_mul_left _ this
    rw [Nat.mul_comm (B32 ^ l.length)]
    rw [Nat.mul_add] at h3
    omega
theorem digs_dv (l : List Nat) (h : small l) (hn : l.getLast? ≠ some 0) : digs (dv l) = l := by
  obtain ⟨h1, h2⟩ := trim_split l h
  by_cases he : l.length - (digs (dv l)).length = 0
  · rw [he] at h1; simpa using h1.symm
  · exfalso
    apply hn
    rw [h1]
    obtain ⟨k, hk⟩ : ∃ k, l.length - (digs (dv l)).length = k + 1 := ⟨l.length - (digs (dv l)).length - 1, by omega⟩
    rw [hk, List.replicate_succ', ← List.append_assoc]
    simp
theorem digs_last (n : Nat) : (digs n).getLast? ≠ some 0 := by
  induction n using Nat.strongRecOn with
  | _ n ih =>
    by_cases h0 : n = 0
    · subst h0; simp [digs_zero]
    · rw [digs_pos n (by omega)]
      by_cases h1 : n / B32 = 0
      · rw [h1, digs_zero]
        have : n % B32 = n := by
          have := Nat.mod_add_div n B32
          rw [h1] at this; omega
        simp [this, h0]
      · have := ih (n / B32) (Nat.div_lt_self (by omega) (by unfold B32; omega))
        have h2 : 0 < n / B32 := Nat.pos_of_ne_zero h1
        rw [digs_pos (n / B32) h2] at this ⊢
        simpa [List.getLast?_cons_cons] using this
theorem digs_length_le (n k : Nat) : (digs n).length ≤ k ↔ n < B32 ^ k := by
  induction k generalizing n with
  | zero =>
    by_cases h : n = 0
    · subst h; simp [digs_zero]
    · rw [digs_pos n (by omega), Nat.pow_zero, List.length_cons]; omega
  | succ k ih =>
    by_cases h : n = 0
    · subst h; simp [digs_zero, Nat.pow_pos, B32]
    · rw [digs_pos n (by omega), List.length_cons, Nat.pow_succ]
      have := ih (n / B32)
      rw [Nat.div_lt_iff_lt_mul (by unfold B32; omega)] at this
      omega
theorem digs_eq_nil (n : Nat) : digs n = [] ↔ n = 0 := by
  constructor
  · intro h; rw [← dv_digs n, h]; rfl
  · intro h; subst h; rfl

/-! ### a fixed number of digits of a number -/
def dgl (n N : Nat) : List Nat := (List.range n).map fun j => N / B32 ^ j % B32
theorem dgl_length (n N : Nat) : (dgl n N).length = n := by simp [dgl]
theorem dgl_get (n N j : Nat) (h : j < n) : (dgl n N)[j]'(by rw [dgl_length]; exact h) = N / B32 ^ j % B32 := by simp [dgl]
theorem small_dgl (n N : Nat) : small (dgl n N) := by
  intro x hx
  simp only [dgl, List.mem_map] at hx
  obtain ⟨j, _, rfl⟩ := hx
  exact Nat.mod_lt _ (by unfold B32; omega)
theorem map_range_succ (f : Nat → Nat) (n : Nat) : (List.range (n + 1)).map f = f 0 :: (List.range n).map fun j => f (j + 1) := by
  rw [List.range_succ_eq_map, List.map_cons, List.map_map]; rfl
theorem pow_shift (b N j : Nat) : N / b ^ (j + 1) % b = N / b / b ^ j % b := by
  rw [Nat.div_div_eq_div_mul, Nat.pow_succ, Nat.mul_comm b]
theorem pow_first (b N : Nat) : N / b ^ 0 % b = N % b := by rw [Nat.pow_zero, Nat.div_one]
theorem dgl_succ (n N : Nat) : dgl (n + 1) N = (N % B32) :: dgl n (N / B32) := by
  unfold dgl
  rw [map_range_succ, pow_first]
  exact congrArg _ (List.map_congr_left fun j _ => pow_shift B32 N j)
theorem dv_dgl (n : Nat) : ∀ N, dv (dgl n N) = N % B32 ^ n := by
  induction n with
  | zero => intro N; simp [dgl, dv, Nat.mod_one]
  | succ n ih =>
    intro N
    rw [dgl_succ, dv, ih, Nat.pow_succ, Nat.mul_comm (B32 ^ n)]
    exact (Nat.mod_mul).symm
theorem B32_two : B32 = 2 ^ 32 := by simp [B32]
theorem B32_pow (k : Nat) : B32 ^ k = 2 ^ (32 * k) := by rw [B32_two, ← Nat.pow_mul]
theorem dgl_zero (n : Nat) : dgl n 0 = List.replicate n 0 := by
  unfold dgl
  simp [List.map_const']
/-- one small number shifted in by 'or' turns one digit alone -/
theorem dgl_or (n N c p : Nat) (hc : c < 2 ^ (32 - p % 32)) :
    (dgl n N).set (p / 32) ((N / B32 ^ (p / 32) % B32) ||| (c <<< (p % 32))) = dgl n (N ||| (c <<< p)) := by
  apply List.ext_getElem
  · simp [dgl_length]
  · intro j h1 h2
    have hj : j < n := by simpa [dgl_length] using h2
    rw [List.getElem_set, dgl_get n _ j hj]
    have hdig : ∀ M : Nat, ∀ j i, (M / B32 ^ j % B32).testBit i = (decide (i < 32) && M.testBit (32 * j + i)) := by
      intro M j i
      rw [B32_pow, B32_two, Nat.testBit_mod_two_pow, Nat.testBit_div_two_pow, Nat.add_comm i]
    have hc' : ∀ i, 32 - p % 32 ≤ i → c.testBit i = false := fun i hi =>
      Nat.testBit_lt_two_pow (Nat.lt_of_lt_of_le hc (Nat.pow_le_pow_right (by omega) hi))
    split
    · rename_i he
      subst he
      apply Nat.eq_of_testBit_eq
      intro i
      rw [dgl_get n _ (p / 32) hj, Nat.testBit_or, hdig, hdig, Nat.testBit_or, Nat.testBit_shiftLeft, Nat.testBit_shiftLeft]
      have e1 : (32 * (p / 32) + i ≥ p) ↔ (i ≥ p % 32) := by omega
      have e2 : 32 * (p / 32) + i - p = i - p % 32 := by omega
      rw [e2]
      by_cases hi : i < 32
      · by_cases hg : i ≥ p % 32
        · simp [hi, hg, e1.2 hg]
        · have : ¬ (32 * (p / 32) + i ≥ p) := by omega
          simp [hi, hg, this]
      · have hz : c.testBit (i - p % 32) = false := hc' _ (by omega)
        simp [hi, hz]
    · rename_i he
      rw [dgl_get n _ j hj]
      apply Nat.eq_of_testBit_eq
      intro i
      rw [hdig, hdig, Nat.testBit_or, Nat.testBit_shiftLeft]
      by_cases hi : i < 32
      · by_cases hg : 32 * j + i ≥ p
        · have hz : c.testBit (32 * j + i - p) = false := hc' _ (by omega)
          simp [hz]
        · simp [hg]
      · simp [hi]

/-! ### strings -/
def nv (s : ByteArray) : Nat := val s.data.toList
def isN (s : ByteArray) : Bool := natl s.data.toList
def encS (n : Nat) : ByteArray := ⟨(enc n).toArray⟩
theorem nv_encS (n : Nat) : nv (encS n) = n := by simp [nv, encS, val_enc]
theorem isN_encS (n : Nat) : isN (encS n) = true := by simp [isN, encS, natl_enc]
theorem encS_nv (s : ByteArray) (h : isN s = true) : encS (nv s) = s := by
  unfold encS nv; rw [enc_val _ h]
theorem size_encS (n : Nat) : (encS n).size = (enc n).length := by simp [encS, ByteArray.size]
theorem encS_inj {a b : Nat} (h : encS a = encS b) : a = b := by rw [← nv_encS a, h, nv_encS]
theorem encS_size_le (n k : Nat) : (encS n).size ≤ k ↔ n < 256 ^ k := by rw [size_encS]; exact enc_length_le n k
theorem nv_lt (s : ByteArray) : nv s < 256 ^ s.size := by
  have h : s.data.toList.length = s.size := by rw [Array.length_toList]; rfl
  rw [← h]; exact val_lt s.data.toList

theorem slen (s : ByteArray) : s.data.toList.length = s.size := by rw [Array.length_toList]; rfl
/-- the number of a string's first k bytes, the others 0 -/
def wnum (s : ByteArray) (k : Nat) : Nat := val (s.data.toList.take k) * 256 ^ (s.size - k)
theorem wnum_zero (s : ByteArray) : wnum s 0 = 0 := by simp [wnum, val]
theorem wnum_all (s : ByteArray) : wnum s s.size = nv s := by
  rw [wnum, Nat.sub_self, Nat.pow_zero, Nat.mul_one, List.take_of_length_le (by rw [slen]; exact Nat.le_refl _)]; rfl
theorem take_snoc (s : ByteArray) (k : Nat) (h : k < s.size) : s.data.toList.take (k + 1) = s.data.toList.take k ++ [s[k]] := by
  rw [List.take_succ_eq_append_getElem (by simpa using h)]; rfl
theorem two_256 (a : Nat) : 256 ^ a = 2 ^ (8 * a) := by rw [show (256 : Nat) = 2 ^ 8 by simp, ← Nat.pow_mul]
theorem wnum_succ (s : ByteArray) (k : Nat) (h : k < s.size) : wnum s (k + 1) = wnum s k ||| (s[k].toNat <<< (8 * (s.size - 1 - k))) := by
  obtain ⟨a, ha⟩ : ∃ a, a = s.size - 1 - k := ⟨_, rfl⟩
  have e1 : s.size - k = a + 1 := by omega
  have e2 : s.size - (k + 1) = a := by omega
  rw [wnum, wnum, take_snoc s k h, val_snoc, e1, e2, ← ha, Nat.shiftLeft_eq]
  generalize val (s.data.toList.take k) = m
  have hb := s[k].toNat_lt
  rw [two_256, two_256, ← Nat.shiftLeft_eq, ← Nat.shiftLeft_eq, ← Nat.shiftLeft_eq]
  rw [show 8 * (a + 1) = 8 + 8 * a by omega, Nat.shiftLeft_add, ← Nat.shiftLeft_or_distrib]
  congr 1
  rw [← Nat.shiftLeft_add_eq_or_of_lt (by omega), Nat.shiftLeft_eq]

theorem dgl_digs (n N : Nat) (h1 : N < B32 ^ n) (h2 : 0 < n → B32 ^ (n - 1) ≤ N) : dgl n N = digs N := by
  have hd : dv (dgl n N) = N := by rw [dv_dgl, Nat.mod_eq_of_lt h1]
  obtain ⟨s1, s2⟩ := trim_split (dgl n N) (small_dgl n N)
  rw [hd, dgl_length] at s1 s2
  have hl : n ≤ (digs N).length := by
    rcases Nat.eq_zero_or_pos n with h0 | h0
    · omega
    · have := h2 h0
      have h3 := digs_length_le N (n - 1)
      omega
  rw [s1, show n - (digs N).length = 0 by omega]; simp
theorem nv_ge (s : ByteArray) (hn : isN s = true) (h : 0 < s.size) : 256 ^ (s.size - 1) ≤ nv s := by
  have h1 := length_le_of_val s.data.toList hn (s.size - 1)
  rw [slen] at h1
  have : ¬ val s.data.toList < 256 ^ (s.size - 1) := fun h2 => by have := h1 h2; omega
  unfold nv; omega
theorem words_digs (s : ByteArray) (hn : isN s = true) : dgl ((s.size + 3) / 4) (nv s) = digs (nv s) := by
  apply dgl_digs
  · have := nv_lt s
    refine Nat.lt_of_lt_of_le this ?_
    rw [B32_pow, two_256]
    exact Nat.pow_le_pow_right (by omega) (by omega)
  · intro h
    refine Nat.le_trans ?_ (nv_ge s hn (by omega))
    rw [B32_pow, two_256]
    exact Nat.pow_le_pow_right (by omega) (by omega)
theorem isN_iff (s : ByteArray) : isN s = true ↔ s = encS (nv s) := ⟨fun h => (encS_nv s h).symm, fun h => by rw [h]; exact isN_encS _⟩
theorem nv_size (s : ByteArray) (hn : isN s = true) (k : Nat) : s.size ≤ k ↔ nv s < 256 ^ k := by
  have := encS_size_le (nv s) k
  rw [encS_nv s hn] at this; exact this

/-! ### cutting zeros off -/
theorem dv_take_zero (xs : List Nat) (m : Nat) (h : m < xs.length) (hz : xs[m] = 0) : dv (xs.take (m + 1)) = dv (xs.take m) := by
  rw [List.take_succ_eq_append_getElem h, dv_append, hz]; simp [dv]
theorem small_take {xs : List Nat} (h : small xs) (m : Nat) : small (xs.take m) := fun x hx => h x (List.mem_of_mem_take hx)
theorem take_digs (xs : List Nat) (hs : small xs) (m : Nat) (hm : m ≤ xs.length) (hd : dv (xs.take m) = dv xs) (hz : ∀ h : 0 < m, xs[m - 1] ≠ 0) : xs.take m = digs (dv xs) := by
  rw [← hd]
  refine (digs_dv _ (small_take hs m) ?_).symm
  rcases Nat.eq_zero_or_pos m with h0 | h0
  · subst h0; simp
  · rw [List.getLast?_eq_getElem?, List.length_take, Nat.min_eq_left hm, List.getElem?_take, if_pos (by omega)]
    simp [show m - 1 < xs.length by omega, hz h0]

/-! ### comparing digits -/
def cmpN (n m : Nat) : Int := if n < m then -1 else if n = m then 0 else 1
theorem cmpN_lt {n m : Nat} (h : n < m) : cmpN n m = -1 := if_pos h
theorem cmpN_eq {n m : Nat} (h : n = m) : cmpN n m = 0 := by subst h; simp [cmpN]
theorem cmpN_gt {n m : Nat} (h : m < n) : cmpN n m = 1 := by rw [cmpN, if_neg (by omega), if_neg (by omega)]
theorem digs_lt_of_length {n m : Nat} (h : (digs n).length < (digs m).length) : n < m := by
  have h1 := (digs_length_le n (digs n).length).1 (Nat.le_refl _)
  have h2 := digs_length_le m (digs n).length
  have : ¬ m < B32 ^ (digs n).length := fun h3 => by have := h2.2 h3; omega
  omega
theorem dv_drop_take (xs : List Nat) (k : Nat) (h : k ≤ xs.length) : dv xs = dv (xs.take k) + B32 ^ k * dv (xs.drop k) := by
  have := dv_append (xs.take k) (xs.drop k)
  rw [List.take_append_drop, List.length_take, Nat.min_eq_left h] at this
  exact this
theorem dv_drop_succ (xs : List Nat) (k : Nat) (h : k < xs.length) : dv (xs.drop k) = xs[k] + B32 * dv (xs.drop (k + 1)) := by
  rw [List.drop_eq_getElem_cons h, dv]
/-- the most significant digits being the same, the first that differ decide -/
theorem dv_lt_of_digit (xs ys : List Nat) (hx : small xs) (k : Nat) (h1 : k < xs.length) (h2 : k < ys.length) (hd : xs.drop (k + 1) = ys.drop (k + 1)) (hlt : xs[k] < ys[k]) : dv xs < dv ys := by
  rw [dv_drop_take xs k (by omega), dv_drop_take ys k (by omega), dv_drop_succ xs k h1, dv_drop_succ ys k h2, hd]
  have h3 := dv_lt (xs.take k) (small_take hx k)
  rw [List.length_take, Nat.min_eq_left (by omega)] at h3
  generalize dv (ys.drop (k + 1)) = m
  have h4 : B32 ^ k * (xs[k] + B32 * m + 1) ≤ B32 ^ k * (ys[k] + B32 * m) := Nat.mul_le_mul_left _ (by omega)
  rw [Nat.mul_add] at h4
  omega

theorem digs_dgl (V : Nat) : digs V = dgl (digs V).length V := by
  refine (dgl_digs _ _ ((digs_length_le V _).1 (Nat.le_refl _)) fun h => ?_).symm
  have := digs_length_le V ((digs V).length - 1)
  have h2 : ¬ V < B32 ^ ((digs V).length - 1) := fun h3 => by have := this.2 h3; omega
  omega
theorem digs_get (V i : Nat) (h : i < (digs V).length) : (digs V)[i] = V / B32 ^ i % B32 := by
  have h1 := dgl_get (digs V).length V i h
  have h2 : (digs V)[i]? = (dgl (digs V).length V)[i]? := by rw [← digs_dgl]
  rw [List.getElem?_eq_getElem h, List.getElem?_eq_getElem (by rw [dgl_length]; exact h), h1] at h2
  exact Option.some.inj h2
theorem byte_of (V i k : Nat) (hk : k < 4) : V / B32 ^ i % B32 / 2 ^ (8 * k) % 256 = V / 256 ^ (4 * i + k) % 256 := by
  apply Nat.eq_of_testBit_eq
  intro j
  rw [show (256 : Nat) = 2 ^ 8 by simp, Nat.testBit_mod_two_pow, Nat.testBit_mod_two_pow, ← Nat.pow_mul, Nat.testBit_div_two_pow, Nat.testBit_div_two_pow, B32_pow, B32_two, Nat.testBit_mod_two_pow, Nat.testBit_div_two_pow]
  by_cases hj : j < 8
  · have : j + 8 * k < 32 := by omega
    simp only [hj, this, decide_true, Bool.true_and]
    congr 1; omega
  · simp [hj]
/-- the bytes of the number V from the p-th on -/
def top (V p : Nat) : List UInt8 := enc (V / 256 ^ p)
theorem top_zero (V : Nat) : top V 0 = enc V := by simp [top]
theorem top_all (V p : Nat) (h : V < 256 ^ p) : top V p = [] := by rw [top, Nat.div_eq_of_lt h, enc_zero]
theorem top_succ (V p : Nat) : top V p = if (top V (p + 1)).length = 0 ∧ V / 256 ^ p % 256 = 0 then [] else top V (p + 1) ++ [UInt8.ofNat (V / 256 ^ p % 256)] := by
  have e : V / 256 ^ p = V / 256 ^ (p + 1) * 256 + V / 256 ^ p % 256 := by
    rw [Nat.pow_succ, ← Nat.div_div_eq_div_mul]; omega
  have h1 : (top V (p + 1)).length = 0 ↔ V / 256 ^ (p + 1) = 0 := by
    unfold top
    rw [List.length_eq_zero_iff]
    constructor
    · intro h; rw [← val_enc (V / 256 ^ (p + 1)), h]; rfl
    · intro h; rw [h]; rfl
  simp only [h1]
  conv => lhs; unfold top; rw [e]
  rw [enc_step _ _ (Nat.mod_lt _ (by omega))]
  rfl
theorem top_length (V p : Nat) : (top V p).length ≤ (enc V).length := (enc_length_le _ _).2 (Nat.lt_of_le_of_lt (Nat.div_le_self _ _) ((enc_length_le _ _).1 (Nat.le_refl _)))
theorem enc_length_digs (V : Nat) : (enc V).length ≤ 4 * (digs V).length := by
  rw [enc_length_le, two_256, show 8 * (4 * (digs V).length) = 32 * (digs V).length by omega, ← B32_pow]
  exact (digs_length_le _ _).1 (Nat.le_refl _)

theorem norm_len (xs : List Nat) (hs : small xs) (h : 0 < xs.length → B32 ^ (xs.length - 1) ≤ dv xs) : digs (dv xs) = xs := by
  obtain ⟨s1, s2⟩ := trim_split xs hs
  have hl : xs.length ≤ (digs (dv xs)).length := by
    rcases Nat.eq_zero_or_pos xs.length with h0 | h0
    · omega
    · have := h h0
      have h3 := digs_length_le (dv xs) (xs.length - 1)
      omega
  conv => rhs; rw [s1]
  rw [show xs.length - (digs (dv xs)).length = 0 by omega]; simp
theorem digs_ge (n : Nat) (h : 0 < (digs n).length) : B32 ^ ((digs n).length - 1) ≤ n := by
  have := digs_length_le n ((digs n).length - 1)
  have h2 : ¬ n < B32 ^ ((digs n).length - 1) := fun h3 => by have := this.2 h3; omega
  omega
theorem digs_lt (n : Nat) : n < B32 ^ (digs n).length := (digs_length_le n _).1 (Nat.le_refl _)
theorem dv_snoc (xs : List Nat) (d : Nat) : dv (xs ++ [d]) = dv xs + B32 ^ xs.length * d := by rw [dv_append]; simp [dv]
theorem dv_take_succ (xs : List Nat) (k : Nat) (h : k < xs.length) : dv (xs.take (k + 1)) = dv (xs.take k) + B32 ^ k * xs[k] := by
  rw [List.take_succ_eq_append_getElem h, dv_snoc, List.length_take, Nat.min_eq_left (by omega)]
theorem dv_take_getD (xs : List Nat) (k : Nat) : dv (xs.take (k + 1)) = dv (xs.take k) + B32 ^ k * xs.getD k 0 := by
  by_cases h : k < xs.length
  · rw [dv_take_succ xs k h]; simp [List.getD, h]
  · rw [List.take_of_length_le (by omega), List.take_of_length_le (by omega)]; simp [List.getD, List.getElem?_eq_none (by omega : xs.length ≤ k)]
theorem small_snoc {xs : List Nat} {d : Nat} (h : small xs) (hd : d < B32) : small (xs ++ [d]) := by
  intro x hx
  rcases List.mem_append.1 hx with hx | hx
  · exact h x hx
  · simp at hx; omega
theorem getD_lt {xs : List Nat} (h : small xs) (k : Nat) : xs.getD k 0 < B32 := by
  by_cases hk : k < xs.length
  · simp only [List.getD, List.getElem?_eq_getElem hk]; exact h _ (List.getElem_mem _)
  · simp only [List.getD, List.getElem?_eq_none (by omega : xs.length ≤ k)]; show 0 < B32; unfold B32; omega
/-- one digit of a subtraction -/
theorem less_step (R A C : List Nat) (k c c' r : Nat) (hR : R.length = k) (hinv : dv R + dv (C.take k) = dv (A.take k) + c * B32 ^ k) (hr : r + c + C.getD k 0 = A.getD k 0 + c' * B32) :
    dv (R ++ [r]) + dv (C.take (k + 1)) = dv (A.take (k + 1)) + c' * B32 ^ (k + 1) := by
  rw [dv_snoc, dv_take_getD, dv_take_getD, hR, Nat.pow_succ]
  generalize B32 ^ k = p at *
  generalize C.getD k 0 = y at *
  generalize A.getD k 0 = x at *
  have h1 : p * (r + c + y) = p * (x + c' * B32) := by rw [hr]
  rw [Nat.mul_add, Nat.mul_add, Nat.mul_add] at h1
  have e1 : c * p = p * c := Nat.mul_comm _ _
  have e2 : c' * (p * B32) = p * (c' * B32) := by rw [← Nat.mul_assoc, ← Nat.mul_assoc, Nat.mul_comm c' p]
  rw [e2]; omega
theorem less_end (R : List Nat) (n m c : Nat) (hs : small R) (hR : R.length = (digs n).length) (hmn : m ≤ n) (hc : c ≤ 1)
    (hinv : dv R + dv ((digs m).take (digs n).length) = dv ((digs n).take (digs n).length) + c * B32 ^ (digs n).length) : dv R = n - m := by
  have hl : (digs m).length ≤ (digs n).length := (digs_length_le m _).2 (Nat.lt_of_le_of_lt hmn (digs_lt n))
  rw [List.take_of_length_le hl, List.take_length, dv_digs, dv_digs] at hinv
  have h1 := dv_lt R hs
  rw [hR] at h1
  have h2 : c = 0 := by
    rcases Nat.eq_zero_or_pos c with h | h
    · exact h
    · have : c = 1 := by omega
      subst this
      omega
  subst h2; omega
/-- one digit of a doubling -/
theorem double_step (R A : List Nat) (k c b0 : Nat) (hR : R.length = k) (hinv : dv R + c * B32 ^ k = 2 * dv (A.take k) + b0) :
    dv (R ++ [(2 * A.getD k 0 + c) % B32]) + (2 * A.getD k 0 + c) / B32 * B32 ^ (k + 1) = 2 * dv (A.take (k + 1)) + b0 := by
  rw [dv_snoc, dv_take_getD, hR, Nat.pow_succ]
  generalize B32 ^ k = p at *
  generalize A.getD k 0 = x at *
  have h := Nat.mod_add_div (2 * x + c) B32
  generalize (2 * x + c) % B32 = r at *
  generalize (2 * x + c) / B32 = q at *
  have h1 : p * (r + B32 * q) = p * (2 * x + c) := by rw [h]
  rw [Nat.mul_add, Nat.mul_add] at h1
  have e1 : c * p = p * c := Nat.mul_comm _ _
  have e2 : q * (p * B32) = p * (B32 * q) := by rw [Nat.mul_comm B32 q, ← Nat.mul_assoc, ← Nat.mul_assoc, Nat.mul_comm q p]
  have e3 : p * (2 * x) = 2 * (p * x) := by rw [← Nat.mul_assoc, Nat.mul_comm p 2, Nat.mul_assoc]
  rw [e2, Nat.mul_add]; omega
theorem double_end (R : List Nat) (n c b0 : Nat) (hs : small R) (hR : R.length = (digs n).length) (hb : b0 ≤ 1) (hinv : dv R + c * B32 ^ (digs n).length = 2 * n + b0) :
    (if 0 < c then R ++ [c] else R) = digs (2 * n + b0) ∧ c ≤ 1 := by
  have hlt := digs_lt n
  have hc : c ≤ 1 := by
    rcases Nat.lt_or_ge c 2 with h | h
    · omega
    · have : 2 * B32 ^ (digs n).length ≤ c * B32 ^ (digs n).length := Nat.mul_le_mul_right _ h
      omega
  refine ⟨?_, hc⟩
  by_cases h0 : 0 < c
  · have : c = 1 := by omega
    subst this
    rw [if_pos h0, ← hinv, Nat.one_mul]
    have e : dv R + B32 ^ (digs n).length = dv (R ++ [1]) := by rw [dv_snoc, hR, Nat.mul_one]
    rw [e]
    refine (digs_dv _ (small_snoc hs (by unfold B32; omega)) (by simp)).symm
  · have : c = 0 := by omega
    subst this
    rw [if_neg (by omega)]
    have hd : dv R = 2 * n + b0 := by omega
    rw [← hd]
    refine (norm_len R hs fun hp => ?_).symm
    have := digs_ge n (by omega)
    rw [hR]; omega

theorem bit_of (V p : Nat) : V / B32 ^ (p / 32) % B32 / 2 ^ (p % 32) % 2 = V / 2 ^ p % 2 := by
  apply Nat.eq_of_testBit_eq
  intro j
  rw [show (2 : Nat) = 2 ^ 1 by simp, Nat.testBit_mod_two_pow, Nat.testBit_mod_two_pow, show (2 ^ 1 : Nat) = 2 by simp, Nat.testBit_div_two_pow, Nat.testBit_div_two_pow, B32_pow, B32_two, Nat.testBit_mod_two_pow, Nat.testBit_div_two_pow]
  by_cases hj : j < 1
  · have : j + p % 32 < 32 := by omega
    simp only [hj, this, decide_true, Bool.true_and]
    congr 1; omega
  · simp [hj]

/-! ### long division, bit by bit -/
abbrev BitAt (N : Nat) : Type := { p : Nat × Nat // (0 < N → p.1 < N) ∧ p.2 ≤ 1 }
def bitAt (V N i : Nat) : BitAt N := ⟨(N - 1 - i, V / 2 ^ (N - 1 - i) % 2), fun h => by show N - 1 - i < N; omega, by show V / 2 ^ (N - 1 - i) % 2 ≤ 1; omega⟩
/-- what has come when j rounds are over -/
def bitsUpto (V N j : Nat) : List (BitAt N) := (List.range j).map (bitAt V N)
theorem bitsUpto_succ (V N j : Nat) : bitsUpto V N (j + 1) = bitsUpto V N j ++ [bitAt V N j] := by simp [bitsUpto, List.range_succ]
theorem bitsUpto_length (V N j : Nat) : (bitsUpto V N j).length = j := by simp [bitsUpto]
def divStep (m : Nat) (s : Nat × Nat) (at_ b : Nat) : Nat × Nat :=
  if m ≤ 2 * s.2 + b then (s.1 ||| (1 <<< at_), 2 * s.2 + b - m) else (s.1, 2 * s.2 + b)
/-- quotient so far, remainder so far -/
def divSt (m : Nat) {N : Nat} (pre : List (BitAt N)) : Nat × Nat := pre.foldl (fun s x => divStep m s x.1.1 x.1.2) (0, 0)
theorem divSt_snoc (m : Nat) {N : Nat} (pre : List (BitAt N)) (x : BitAt N) : divSt m (pre ++ [x]) = divStep m (divSt m pre) x.1.1 x.1.2 := by simp [divSt]
theorem divSt_nil (m : Nat) {N : Nat} : divSt m ([] : List (BitAt N)) = (0, 0) := rfl
theorem divSt_lt (m : Nat) (hm : 0 < m) {N : Nat} : ∀ pre : List (BitAt N), (divSt m pre).2 < m := by
  refine snoc_rec ?_ ?_
  · rw [divSt_nil]; exact hm
  · intro pre x ih
    have := x.2.2
    rw [divSt_snoc, divStep]
    split
    · show 2 * (divSt m pre).2 + x.1.2 - m < m; omega
    · show 2 * (divSt m pre).2 + x.1.2 < m; omega
theorem divSt_upto (n m N : Nat) (hm : 0 < m) (hn : n < 2 ^ N) : ∀ j, j ≤ N → divSt m (bitsUpto n N j) = ((n / 2 ^ (N - j) / m) <<< (N - j), n / 2 ^ (N - j) % m) := by
  intro j
  induction j with
  | zero =>
    intro _
    rw [Nat.sub_zero, Nat.div_eq_of_lt hn]
    simp [bitsUpto, divSt]
  | succ j ih =>
    intro hj
    rw [bitsUpto_succ, divSt_snoc, ih (by omega)]
    obtain ⟨p, hp⟩ : ∃ p, p = N - 1 - j := ⟨_, rfl⟩
    have e1 : N - j = p + 1 := by omega
    have e2 : N - (j + 1) = p := by omega
    rw [e1, e2]
    unfold divStep bitAt
    simp only [← hp]
    obtain ⟨M, hM⟩ : ∃ M, M = n / 2 ^ p := ⟨_, rfl⟩
    have e3 : n / 2 ^ (p + 1) = M / 2 := by rw [Nat.pow_succ, ← Nat.div_div_eq_div_mul, hM]
    rw [e3, ← hM]
    have e4 : M = 2 * (M / 2) + M % 2 := by omega
    have h1 := Nat.div_add_mod (M / 2) m
    have h2 := Nat.mod_lt (M / 2) hm
    generalize M / 2 / m = Q at *
    generalize M / 2 % m = r at *
    have e5 : M = 2 * (m * Q) + (2 * r + M % 2) := by omega
    have h3 : M % 2 ≤ 1 := by omega
    generalize hb : M % 2 = b at *
    have e6 : 2 * (m * Q) = m * (2 * Q) := by rw [← Nat.mul_assoc, Nat.mul_comm 2 m, Nat.mul_assoc]
    split
    · rename_i hle
      have e7 : M = m * (2 * Q + 1) + (2 * r + b - m) := by rw [Nat.mul_add]; omega
      have e8 : M / m = 2 * Q + 1 := by rw [e7, Nat.mul_add_div hm, Nat.div_eq_of_lt (by omega), Nat.add_zero]
      have e9 : M % m = 2 * r + b - m := by rw [e7, Nat.mul_add_mod, Nat.mod_eq_of_lt (by omega)]
      rw [e8, e9]
      congr 1
      rw [show p + 1 = 1 + p by omega, Nat.shiftLeft_add, ← Nat.shiftLeft_or_distrib]
      congr 1
      have h := Nat.shiftLeft_add_eq_or_of_lt (show 1 < 2 ^ 1 by omega) Q
      rw [← h, Nat.shiftLeft_eq]; omega
    · rename_i hle
      have e8 : M / m = 2 * Q := by rw [e5, e6, Nat.mul_add_div hm, Nat.div_eq_of_lt (by omega), Nat.add_zero]
      have e9 : M % m = 2 * r + b := by rw [e5, e6, Nat.mul_add_mod, Nat.mod_eq_of_lt (by omega)]
      rw [e8, e9, show p + 1 = 1 + p by omega, Nat.shiftLeft_add, Nat.shiftLeft_eq Q 1, show Q * 2 ^ 1 = 2 * Q by omega]
theorem divSt_all (n m N : Nat) (hm : 0 < m) (hn : n < 2 ^ N) : divSt m (bitsUpto n N N) = (n / m, n % m) := by
  rw [divSt_upto n m N hm hn N (Nat.le_refl _), Nat.sub_self]
  simp

theorem digs_twice (x m k : Nat) (h : (digs m).length ≤ k) (hx : x < 2 * m) : (digs x).length ≤ k + 1 := by
  rw [digs_length_le] at h ⊢
  rw [Nat.pow_succ]
  generalize B32 ^ k = X at h
  have : X * 2 ≤ X * B32 := Nat.mul_le_mul_left _ (by unfold B32; omega)
  omega

/-! ### what the functions hand back -/
def bE : ByteArray := ⟨#[]⟩
def chkN (ss : List ByteArray) : Int := if ss.all isN then if ss.all (fun s => decide (s.size ≤ 256)) then 0 else 2 else 60
def shortN (n : Nat) : ByteArray × Int := if (encS n).size ≤ 256 then (encS n, 0) else (bE, 2)
def ofF (n : Int) : ByteArray × Int := if n < 0 then (bE, 1) else (encS n.toNat, 0)
def intF (s : ByteArray) : Int × Bool := if isN s = true ∧ s.size ≤ 8 ∧ nv s < 9223372036854775808 then ((nv s : Int), true) else (0, false)
def cmpF (a b : ByteArray) : Int × Int := if chkN [a, b] = 0 then (cmpN (nv a) (nv b), 0) else (0, chkN [a, b])
def addF (a b : ByteArray) : ByteArray × Int := if chkN [a, b] = 0 then shortN (nv a + nv b) else (bE, chkN [a, b])
def subF (a b : ByteArray) : ByteArray × Int := if chkN [a, b] = 0 then if nv a < nv b then (bE, 1) else (encS (nv a - nv b), 0) else (bE, chkN [a, b])
def mulF (a b : ByteArray) : ByteArray × Int := if chkN [a, b] = 0 then shortN (nv a * nv b) else (bE, chkN [a, b])
def divF (a b : ByteArray) : ByteArray × ByteArray × Int := if chkN [a, b] = 0 then if nv b = 0 then (bE, bE, 71) else (encS (nv a / nv b), encS (nv a % nv b), 0) else (bE, bE, chkN [a, b])
def gcdF (a b : ByteArray) : ByteArray × Int := if chkN [a, b] = 0 then (encS (Nat.gcd (nv a) (nv b)), 0) else (bE, chkN [a, b])
theorem chk2_zero {a b : ByteArray} (h : chkN [a, b] = 0) : isN a = true ∧ isN b = true ∧ a.size ≤ 256 ∧ b.size ≤ 256 := by
  unfold chkN at h
  split at h
  · rename_i h1
    split at h
    · rename_i h2
      simp only [List.all_cons, List.all_nil, Bool.and_true, Bool.and_eq_true, decide_eq_true_eq] at h1 h2
      exact ⟨h1.1, h1.2, h2.1, h2.2⟩
    · cases h
  · cases h
theorem chk2_of {a b : ByteArray} (h1 : isN a = true) (h2 : isN b = true) (h3 : a.size ≤ 256) (h4 : b.size ≤ 256) : chkN [a, b] = 0 := by
  simp [chkN, h1, h2, h3, h4]
theorem digs_of_size4 {a : ByteArray} (k : Nat) (h : a.size ≤ 4 * k) : (digs (nv a)).length ≤ k := by
  rw [digs_length_le, B32_pow]
  refine Nat.lt_of_lt_of_le (nv_lt a) ?_
  rw [two_256]
  exact Nat.pow_le_pow_right (by omega) (by omega)
theorem digs_of_size {a : ByteArray} (h : a.size ≤ 256) : (digs (nv a)).length ≤ 64 := digs_of_size4 64 h
theorem digs_len_mono {a b : Nat} (h : a ≤ b) : (digs a).length ≤ (digs b).length := (digs_length_le _ _).2 (Nat.lt_of_le_of_lt h (digs_lt b))
/-- one digit of a sum -/
theorem add_step (R A C : List Nat) (k c : Nat) (hR : R.length = k) (hinv : dv R + c * B32 ^ k = dv (A.take k) + dv (C.take k)) :
    dv (R ++ [(c + A.getD k 0 + C.getD k 0) % B32]) + (c + A.getD k 0 + C.getD k 0) / B32 * B32 ^ (k + 1) = dv (A.take (k + 1)) + dv (C.take (k + 1)) := by
  rw [dv_snoc, dv_take_getD, dv_take_getD, hR, Nat.pow_succ]
  generalize B32 ^ k = p at *
  generalize A.getD k 0 = x at *
  generalize C.getD k 0 = y at *
  have h := Nat.mod_add_div (c + x + y) B32
  generalize (c + x + y) % B32 = r at *
  generalize (c + x + y) / B32 = q at *
  have h1 : p * (r + B32 * q) = p * (c + x + y) := by rw [h]
  rw [Nat.mul_add, Nat.mul_add, Nat.mul_add] at h1
  have e1 : c * p = p * c := Nat.mul_comm _ _
  have e2 : q * (p * B32) = p * (B32 * q) := by rw [Nat.mul_comm B32 q, ← Nat.mul_assoc, ← Nat.mul_assoc, Nat.mul_comm q p]
  rw [e2]; omega

theorem dv_set : ∀ (L : List Nat) (p v : Nat) (h : p < L.length), dv (L.set p v) + B32 ^ p * L[p] = dv L + B32 ^ p * v
  | d :: L, 0, v, _ => by simp only [List.set_cons_zero, dv, List.getElem_cons_zero, Nat.pow_zero, Nat.one_mul]; omega
  | d :: L, p + 1, v, h => by
    have h' : p < L.length := by simpa using h
    have ih := dv_set L p v h'
    simp only [List.set_cons_succ, dv, List.getElem_cons_succ, Nat.pow_succ]
    have e : ∀ q : Nat, B32 ^ p * B32 * q = B32 * (B32 ^ p * q) := fun q => by rw [Nat.mul_comm (B32 ^ p), Nat.mul_assoc]
    rw [e, e]
    have h2 : B32 * (dv (L.set p v) + B32 ^ p * L[p]) = B32 * (dv L + B32 ^ p * v) := by rw [ih]
    rw [Nat.mul_add, Nat.mul_add] at h2
    omega
theorem small_set {L : List Nat} {p v : Nat} (h : small L) (hv : v < B32) : small (L.set p v) := by
  intro x hx
  rcases List.mem_or_eq_of_mem_set hx with hx | hx
  · exact h x hx
  · omega
/-- one digit of a product: the inner round -/
theorem mul_step (L Y : List Nat) (S i j x o : Nat) (hp : i + j < L.length) (hj : j < Y.length) (hI : dv L + o * B32 ^ (i + j) = S + x * B32 ^ i * dv (Y.take j)) :
    dv (L.set (i + j) ((o + (L[i + j] + x * Y[j])) % B32)) + (o + (L[i + j] + x * Y[j])) / B32 * B32 ^ (i + (j + 1)) = S + x * B32 ^ i * dv (Y.take (j + 1)) := by
  have h1 := dv_set L (i + j) ((o + (L[i + j] + x * Y[j])) % B32) hp
  have h2 := Nat.mod_add_div (o + (L[i + j] + x * Y[j])) B32
  rw [dv_take_succ Y j hj, show i + (j + 1) = i + j + 1 by omega, Nat.pow_succ, Nat.mul_add]
  have e2 : x * B32 ^ i * (B32 ^ j * Y[j]) = B32 ^ (i + j) * (x * Y[j]) := by
    rw [Nat.pow_add, Nat.mul_comm x, Nat.mul_assoc, Nat.mul_assoc, Nat.mul_left_comm x]
  rw [e2]
  generalize x * B32 ^ i * dv (Y.take j) = T at *
  generalize B32 ^ (i + j) = p at *
  generalize L[i + j] = l at *
  generalize x * Y[j] = t at *
  generalize (o + (l + t)) % B32 = r at *
  generalize (o + (l + t)) / B32 = q at *
  have h3 : p * (r + B32 * q) = p * (o + (l + t)) := by rw [h2]
  rw [Nat.mul_add, Nat.mul_add, Nat.mul_add] at h3
  have e3 : q * (p * B32) = p * (B32 * q) := by rw [Nat.mul_comm B32 q, ← Nat.mul_assoc, ← Nat.mul_assoc, Nat.mul_comm q p]
  have e4 : o * p = p * o := Nat.mul_comm _ _
  rw [e3]
  omega
/-- the end of an inner loop -/
theorem mul_end (L X Y : List Nat) (i o : Nat) (hX : small X) (hY : small Y) (hi : i < X.length) (hp : i + Y.length < L.length)
    (hI : dv L + o * B32 ^ (i + Y.length) = dv (X.take i) * dv Y + X[i] * B32 ^ i * dv Y) :
    dv (L.set (i + Y.length) (L[i + Y.length] + o)) = dv (X.take (i + 1)) * dv Y ∧ L[i + Y.length] + o < B32 := by
  have h1 := dv_set L (i + Y.length) (L[i + Y.length] + o) hp
  have e1 : dv (X.take (i + 1)) * dv Y = dv (X.take i) * dv Y + X[i] * B32 ^ i * dv Y := by
    rw [dv_take_succ X i hi, Nat.add_mul, Nat.mul_comm (B32 ^ i)]
  have e2 : dv L + o * B32 ^ (i + Y.length) = dv (X.take (i + 1)) * dv Y := by rw [hI, e1]
  refine ⟨by rw [Nat.mul_add] at h1; rw [← e2, Nat.mul_comm o]; omega, ?_⟩
  have h2 := dv_lt (X.take (i + 1)) (small_take hX _)
  rw [List.length_take, Nat.min_eq_left (by omega)] at h2
  have h3 := dv_lt Y hY
  have h4 : dv (X.take (i + 1)) * dv Y < B32 ^ (i + 1) * B32 ^ Y.length := by
    have hpos : 0 < B32 ^ (i + 1) := Nat.pow_pos (by unfold B32; omega)
    have a1 : dv (X.take (i + 1)) * dv Y ≤ dv (X.take (i + 1)) * B32 ^ Y.length := Nat.mul_le_mul_left _ (by omega)
    have a2 : dv (X.take (i + 1)) * B32 ^ Y.length < B32 ^ (i + 1) * B32 ^ Y.length := (Nat.mul_lt_mul_right (Nat.pow_pos (by unfold B32; omega))).2 h2
    omega
  rw [← e2] at h4
  have e5 : B32 ^ (i + 1) * B32 ^ Y.length = B32 ^ (i + Y.length) * B32 := by
    rw [← Nat.pow_add, show i + 1 + Y.length = i + Y.length + 1 by omega, Nat.pow_succ]
  rw [e5, dv_drop_take L (i + Y.length) (by omega), dv_drop_succ L (i + Y.length) hp] at h4
  generalize B32 ^ (i + Y.length) = p at *
  generalize L[i + Y.length] = l at *
  have h5 : p * (l + o) < p * B32 := by
    have e6 : o * p = p * o := Nat.mul_comm _ _
    rw [e6, Nat.mul_add] at h4
    rw [Nat.mul_add]
    omega
  exact Nat.lt_of_mul_lt_mul_left h5

end Go.Proofs.Ytmcejefeloljiaa.Nm

/-
  Plain numbers: what the functions hand back at numbers that are short.
-/
namespace Go.Proofs.Ytmcejefeloljiaa.Nm

/-- short: at most 256 bytes -/
def Sm (n : Nat) : Prop := (enc n).length ≤ 256
theorem Sm.size {n : Nat} (h : Sm n) : (encS n).size ≤ 256 := by rw [size_encS]; exact h
theorem enc_len_mono {m n : Nat} (h : m ≤ n) : (enc m).length ≤ (enc n).length :=
  (enc_length_le m _).2 (Nat.lt_of_le_of_lt h ((enc_length_le n _).1 (Nat.le_refl _)))
theorem Sm.mono {m n : Nat} (h : Sm n) (hm : m ≤ n) : Sm m := Nat.le_trans (enc_len_mono hm) h
theorem enc_len_lt (n : Nat) : n < 256 ^ (enc n).length := (enc_length_le n _).1 (Nat.le_refl _)
theorem enc_len_mul (m n : Nat) : (enc (m * n)).length ≤ (enc m).length + (enc n).length := by
  rw [enc_length_le, Nat.pow_add]
  have h1 := enc_len_lt m
  have h2 := enc_len_lt n
  exact Nat.mul_lt_mul'' h1 h2
theorem enc_len_add (m n k : Nat) (hm : (enc m).length ≤ k) (hn : (enc n).length ≤ k) : (enc (m + n)).length ≤ k + 1 := by
  rw [enc_length_le] at *
  rw [Nat.pow_succ]
  omega
theorem natE {a : ByteArray} (h1 : isN a = true) (h2 : a.size ≤ 256) : a = encS (nv a) ∧ Sm (nv a) := by
  have h := encS_nv a h1
  exact ⟨h.symm, by rw [← h] at h2; rw [size_encS] at h2; exact h2⟩
theorem chkE2 {m n : Nat} (hm : Sm m) (hn : Sm n) : chkN [encS m, encS n] = 0 := chk2_of (isN_encS m) (isN_encS n) hm.size hn.size
theorem chkE1 {m : Nat} (hm : Sm m) : chkN [encS m] = 0 := by simp [chkN, isN_encS, hm.size]
theorem shortE {n : Nat} (h : Sm n) : shortN n = (encS n, 0) := if_pos h.size
theorem shortL {n : Nat} (h : ¬ Sm n) : shortN n = (bE, 2) := if_neg (fun hs => h (by rw [size_encS] at hs; exact hs))
theorem addE {m n : Nat} (hm : Sm m) (hn : Sm n) (h : Sm (m + n)) : addF (encS m) (encS n) = (encS (m + n), 0) := by
  rw [addF, if_pos (chkE2 hm hn), nv_encS, nv_encS, shortE h]
theorem addL {m n : Nat} (hm : Sm m) (hn : Sm n) (h : ¬ Sm (m + n)) : addF (encS m) (encS n) = (bE, 2) := by
  rw [addF, if_pos (chkE2 hm hn), nv_encS, nv_encS, shortL h]
theorem mulE {m n : Nat} (hm : Sm m) (hn : Sm n) (h : Sm (m * n)) : mulF (encS m) (encS n) = (encS (m * n), 0) := by
  rw [mulF, if_pos (chkE2 hm hn), nv_encS, nv_encS, shortE h]
theorem mulL {m n : Nat} (hm : Sm m) (hn : Sm n) (h : ¬ Sm (m * n)) : mulF (encS m) (encS n) = (bE, 2) := by
  rw [mulF, if_pos (chkE2 hm hn), nv_encS, nv_encS, shortL h]
theorem subE {m n : Nat} (hm : Sm m) (hn : Sm n) (h : n ≤ m) : subF (encS m) (encS n) = (encS (m - n), 0) := by
  rw [subF, if_pos (chkE2 hm hn), nv_encS, nv_encS, if_neg (by omega)]
theorem subL {m n : Nat} (hm : Sm m) (hn : Sm n) (h : m < n) : subF (encS m) (encS n) = (bE, 1) := by
  rw [subF, if_pos (chkE2 hm hn), nv_encS, nv_encS, if_pos h]
theorem divE {m n : Nat} (hm : Sm m) (hn : Sm n) (h : 0 < n) : divF (encS m) (encS n) = (encS (m / n), encS (m % n), 0) := by
  rw [divF, if_pos (chkE2 hm hn), nv_encS, nv_encS, if_neg (by omega)]
theorem divZ {m : Nat} (hm : Sm m) : divF (encS m) (encS 0) = (bE, bE, 71) := by
  rw [divF, if_pos (chkE2 hm (show Sm 0 by show (enc 0).length ≤ 256; rw [enc_zero]; decide)), nv_encS, nv_encS, if_pos rfl]
theorem cmpE {m n : Nat} (hm : Sm m) (hn : Sm n) : cmpF (encS m) (encS n) = (cmpN m n, 0) := by
  rw [cmpF, if_pos (chkE2 hm hn), nv_encS, nv_encS]
theorem gcdE {m n : Nat} (hm : Sm m) (hn : Sm n) : gcdF (encS m) (encS n) = (encS (Nat.gcd m n), 0) := by
  rw [gcdF, if_pos (chkE2 hm hn), nv_encS, nv_encS]
theorem bE_encS : bE = encS 0 := rfl
theorem encS_max {n : Nat} (h : Sm n) : (encS n).size ≤ Go.maxLen := Nat.le_trans h.size (by unfold Go.maxLen; omega)
theorem chk_two {a b : ByteArray} (h : chkN [a, b] ≠ 0) : chkN [a] ≠ 0 ∨ (chkN [a] = 0 ∧ chkN [b] ≠ 0) := by
  by_cases h1 : chkN [a] = 0
  · refine Or.inr ⟨h1, fun h2 => h ?_⟩
    simp only [chkN, List.all_cons, List.all_nil, Bool.and_true] at h1 h2
    split at h1
    · split at h1
      · split at h2
        · split at h2
          · rename_i e1 e2 e3 e4
            exact chk2_of e1 e3 (by simpa using e2) (by simpa using e4)
          · cases h2
        · cases h2
      · cases h1
    · cases h1
  · exact Or.inl h1
theorem chk_one {a : ByteArray} (h : chkN [a] = 0) : isN a = true ∧ a.size ≤ 256 := by
  simp only [chkN, List.all_cons, List.all_nil, Bool.and_true] at h
  split at h
  · split at h
    · rename_i e1 e2
      exact ⟨e1, by simpa using e2⟩
    · cases h
  · cases h

end Go.Proofs.Ytmcejefeloljiaa.Nm

/-
  Plain ratios: what the functions of package ratios hand back, said on texts.
-/
namespace Go.Proofs.Ytmcejefeloljiaa.Nm

/-- a ratio as the program holds it -/
structure Rt where
  neg : Bool
  n : ByteArray
  d : ByteArray
/-- a number with a sign -/
structure Sg where
  neg : Bool
  n : ByteArray
def isE (s : ByteArray) : Bool := decide (s.size = 0)
/-- 'must': the number, unless there was an error -/
def mustO (p : ByteArray × Int) : Option ByteArray := if p.2 = 0 then some p.1 else none
def plusO (a b : ByteArray) : Option ByteArray := mustO (addF a b)
def timesO (a b : ByteArray) : Option ByteArray := mustO (mulF a b)
def lessB (a b : ByteArray) : Bool := decide ((cmpF a b).1 < 0)
def saddO (a b : Sg) : Option Sg :=
  if a.neg = b.neg then (plusO a.n b.n).map fun s => ⟨a.neg, s⟩
  else if lessB a.n b.n then (mustO (subF b.n a.n)).map fun s => ⟨b.neg, s⟩
  else (mustO (subF a.n b.n)).map fun s => ⟨a.neg, s⟩
def overR (a : Sg) (d g : ByteArray) : Rt := ⟨a.neg && !isE (divF a.n g).1, (divF a.n g).1, (divF d g).1⟩
def overO (a : Sg) (d : ByteArray) : Option Rt := (mustO (gcdF a.n d)).map (overR a d)
def badR (a : Rt) : Bool := decide (chkN [a.n] ≠ 0) || decide (chkN [a.d] ≠ 0) || isE a.d || (a.neg && isE a.n)
def checkR (a : Rt) : Int := if badR a then 70 else if (gcdF a.n a.d).1 = ⟨#[1]⟩ then 0 else 70

end Go.Proofs.Ytmcejefeloljiaa.Nm

/-
  Small laws for walks: a slice of numbers that the call itself made.
-/
namespace Go.Proofs.Ytmcejefeloljiaa
open Go.RowKit

/-- The slice v, of numbers of kind k, owns the cells xs (from block B on). -/
def OwnN (w : World) (B : Nat) (E : TypeId) (k : IntKind) (v : Value) (xs : List Nat) : Prop :=
  w.ownsRow B E 1 v xs.length (xs.map fun x => .int k ((x : Nat) : Int))

section
variable {w w' : World} {B : Nat} {E : TypeId} {k : IntKind} {v : Value} {xs : List Nat}
theorem OwnN.shape (h : OwnN w B E k v xs) : ∃ oa cap, v = .slice oa xs.length cap ∧ (oa = none → xs = []) ∧ (∀ a, oa = some a → a = ⟨a.block, 0, none⟩ ∧ B ≤ a.block ∧ a.block < w.heap.size) ∧ xs.length ≤ cap ∧ cap ≤ maxLen := by
  rcases h.2 with ⟨rfl, hn⟩ | ⟨g, cap, cur, rfl, hb, hg, hle, hcm, _⟩
  · exact ⟨none, 0, by rw [hn], fun _ => List.eq_nil_of_length_eq_zero hn, (fun _ h => by cases h), by omega, by simp [maxLen]⟩
  · refine ⟨_, cap, rfl, (fun h => by cases h), (fun a h => ?_), hle, hcm⟩
    cases h
    exact ⟨rfl, hb, (Array.getElem?_eq_some_iff.1 hg).1⟩
/-- the slice's form, no more -/
theorem OwnN.shp (h : OwnN w B E k v xs) : ∃ oa cap, v = .slice oa xs.length cap ∧ xs.length ≤ cap ∧ cap ≤ 9223372036854775807 := by
  obtain ⟨oa, cap, hv, _, _, h1, h2⟩ := h.shape
  exact ⟨oa, cap, hv, h1, by simpa [maxLen] using h2⟩
theorem OwnN.cell {g n cap : Nat} (h : OwnN w B E k (.slice (some ⟨g, 0, none⟩) n cap) xs) (j : Nat) (hj : j < xs.length) :
    w.cell? ⟨g, j, none⟩ = some (.int k ((xs[j] : Nat) : Int)) := by
  have hn : n = xs.length := by
    obtain ⟨oa, c, hv, _⟩ := h.shape
    cases hv; rfl
  subst hn
  rw [World.ownsRow.cellAt h j (by omega)]
  simp [hj]
theorem OwnN.frozen {g n cap : Nat} (h : OwnN w B E k (.slice (some ⟨g, 0, none⟩) n cap) xs) (j : Nat) : w.frozen? ⟨g, j, none⟩ = false := by
  have hn : n = xs.length := by
    obtain ⟨oa, c, hv, _⟩ := h.shape
    cases hv; rfl
  subst hn
  exact World.ownsRow.frozenAt h j
theorem OwnN.stored {g n cap : Nat} (h : OwnN w B E k (.slice (some ⟨g, 0, none⟩) n cap) xs) (j x : Nat) :
    OwnN (w.setCell ⟨g, j, none⟩ (.int k (x : Int))) B E k (.slice (some ⟨g, 0, none⟩) n cap) (xs.set j x) ∧ w.grownBy (w.setCell ⟨g, j, none⟩ (.int k (x : Int))) (some g) := by
  have hn : n = xs.length := by
    obtain ⟨oa, c, hv, _⟩ := h.shape
    cases hv; rfl
  subst hn
  have := World.ownsRow.stored h j (.int k (x : Int))
  unfold OwnN
  rw [List.length_set, List.map_set]
  exact this
theorem OwnN.lt (h : OwnN w B E k v xs) : ∀ g, v.ownBlock = some g → B ≤ g ∧ g < w.heap.size := World.ownsRow.lt h
theorem OwnN.kept {row : Option Nat} (h : OwnN w B E k v xs) (hg : w.grownBy w' row) (hne : v.ownBlock = none ∨ v.ownBlock ≠ row) : OwnN w' B E k v xs :=
  World.ownsRow.kept h hg hne
theorem OwnN.alloc (h : OwnN w B E k v xs) (o : Obj) : OwnN (w.alloc o) B E k v xs := World.ownsRow.alloc h o
theorem OwnN.drew (h : OwnN w B E k v xs) : OwnN w.drew B E k v xs := h
theorem OwnN.drewN (h : OwnN w B E k v xs) (n : Nat) : OwnN (w.drewN n) B E k v xs := h
theorem OwnN.below (h : OwnN w B E k v xs) (hb : Below w.heap.size w w') : OwnN w' B E k v xs :=
  World.ownsRow.kept h (row := none) ⟨hb.os, hb.tape, hb.output, hb.size, fun i hi _ => hb.block i hi⟩ (by cases v.ownBlock <;> simp)
theorem OwnN.nil (w : World) (B : Nat) (E : TypeId) (k : IntKind) : OwnN w B E k (.slice none 0 0) [] := World.ownsRow_nil w B E 1
theorem OwnN.mono {B' : Nat} (h : OwnN w B E k v xs) (hB : B' ≤ B) : OwnN w B' E k v xs := by
  refine ⟨h.1, ?_⟩
  rcases h.2 with h2 | ⟨g, cap, cur, a, b, c⟩
  · exact .inl h2
  · exact .inr ⟨g, cap, cur, a, Nat.le_trans hB b, c⟩
theorem OwnN.made {n : Nat} {v : Value} (h : w.ownsRow B E 1 v n (madeCells #[.int k 0] n).toList) : OwnN w B E k v (List.replicate n 0) := by
  unfold OwnN
  rw [toList_madeCells_one] at h
  simpa using h
/-- cut at a shorter length -/
theorem OwnN.cut {oa : Option Addr} {n cap : Nat} (h : OwnN w B E k (.slice oa n cap) xs) (m : Nat) (hm : m ≤ xs.length) (hs : oa = none → m = 0) : OwnN w B E k (.slice oa m cap) (xs.take m) := by
  rcases h.2 with ⟨hv, hn⟩ | ⟨g, c, cur, hv, hb, hg, hle, hcm, hsz, htk⟩
  · cases hv
    have : m = 0 := hs rfl
    subst this
    simpa using OwnN.nil w B E k
  · cases hv
    have hl : (xs.take m).length = m := by rw [List.length_take]; omega
    refine ⟨by simp, .inr ⟨g, cap, cur, by rw [hl], hb, hg, by omega, hcm, hsz, ?_⟩⟩
    rw [hl, Nat.mul_one, List.map_take, ← htk, Nat.mul_one, List.take_take, Nat.min_eq_left hm]
end

theorem below_of_grown {B : Nat} {a w w' : World} {row : Option Nat} (h : Below B a w) (hg : w.grownBy w' row) (hB : B ≤ w.heap.size) (hr : ∀ k, row = some k → B ≤ k) : Below B a w' := h.grown hg hB hr
theorem sdata (s : ByteArray) : s.toList = s.data.toList := ByteArray.toList_eq s
theorem sdata_length (s : ByteArray) : s.data.toList.length = s.size := by rw [Array.length_toList]; rfl
theorem isEmpty_false {s : ByteArray} (h : 0 < s.size) : s.toList.isEmpty = false := by
  rw [sdata, List.isEmpty_eq_false_iff, ← List.length_pos_iff, sdata_length]; exact h
theorem isEmpty_true {s : ByteArray} (h : ¬ 0 < s.size) : s.toList.isEmpty = true := by
  rw [sdata, List.isEmpty_iff, ← List.length_eq_zero_iff, sdata_length]; omega
theorem ret_bool {a b : Bool} (h : a = b) : Ending.returned (.bool a) = .returned (.bool b) := by rw [h]
theorem ret_int {k : IntKind} {a b : Int} (h : a = b) : Ending.returned (.int k a) = .returned (.int k b) := by rw [h]
theorem ret_string {a b : ByteArray} (h : a = b) : Ending.returned (.string a) = .returned (.string b) := by rw [h]

theorem ownBlock_slice (oa : Option Addr) (n c : Nat) : (Value.slice oa n c).ownBlock = oa.map Addr.block := by cases oa <;> rfl
theorem wrapU (n : Nat) (h : n < 18446744073709551616) : IntKind.u64.wrap (n : Int) = (n : Int) := by rw [IntKind.wrap_u64]; omega
theorem orU (a b : Nat) (ha : a < 18446744073709551616) (hb : b < 18446744073709551616) : bits BinOp.or IntKind.u64 (a : Int) (b : Int) = ((a ||| b : Nat) : Int) := bits_or_u64_nat a b ha hb
theorem andU (a b : Nat) (ha : a < 18446744073709551616) (hb : b < 18446744073709551616) : bits BinOp.and IntKind.u64 (a : Int) (b : Int) = ((a &&& b : Nat) : Int) := bits_and_u64_nat a b ha hb
theorem drew_below {B : Nat} {w w' : World} (h : Below B w w') : Below B w w'.drew := h.drew

/-- 'l = append(l, x)', l a slice of numbers of the call's own: the one element lies in a block just made. -/
theorem append1 {P : Program} (W : World) {ops : Array Oper} {rest : List Oper} {o : Oper} {a : Act} {Q : Exit → Act → World → Prop} (hgd : o.guard = none) (s x : Operand) (t : TypeId)
    (ho : o.op = .call { callee := .builtin .append, args := #[s, x], argTypes := #[t, t] })
    (B : Nat) (E : TypeId) (k : IntKind) (bytes : Nat) (hinfo : (P.info? E).map (fun i => (i.zero, i.size, i.bytes)) = some (some (.int k 0), 1, bytes)) (ht : P.underlying t = some (.slice E))
    (v : Value) (xs : List Nat) (hown : OwnN W B E k v xs) (hs : a.eval s = v) (E' : TypeId) (z : Int) (n : Nat) (hz : z = (n : Int)) (hx : a.eval x = .slice (some ⟨W.heap.size, 0, none⟩) 1 1)
    (hlen : xs.length + 1 ≤ 4294967296) (hb : bytes ≤ 8) (hB : B ≤ W.heap.size)
    (h : ∀ v' w', OwnN w' B E k v' (xs ++ [n]) → (W.alloc (.cells #[.int k z] E')).grownBy w' v.ownBlock → wpList P ops Q rest (a.put o.dst v') w') :
    wpList P ops Q (o :: rest) a (W.alloc (.cells #[.int k z] E')) := by
  obtain ⟨i, hi, h0, h1, h2⟩ := info_parts hinfo
  subst hz
  refine wpList_append_own _ hgd s x t ho B E i (.int k 0) 1 bytes ht hi h0 h1 h2 rfl (by decide) v xs.length _ hs (hown.alloc _) ⟨W.heap.size, 0, none⟩ 1 1 [.int k (n : Int)] hx rfl (cell_one_new _ _ _) ?_ ?_ ?_ ?_ ?_
  · intro u hu; simp at hu; subst hu; rfl
  · unfold maxLen; omega
  · have : (xs.length + 1) * bytes ≤ 4294967296 * 8 := Nat.mul_le_mul hlen hb
    omega
  · simp; omega
  · intro v' w' h3 h4 _
    refine h v' w' ?_ h4
    unfold OwnN
    simpa using h3
theorem grown_below {B : Nat} {a W w' : World} {E' : TypeId} {u v : Value} {xs : List Nat} {E : TypeId} {k : IntKind} (h : Below B a W) (hown : OwnN W B E k v xs) (hg : (W.alloc (.cells #[u] E')).grownBy w' v.ownBlock) (hB : B ≤ W.heap.size) : Below B a w' :=
  (h.alloc hB _).grown hg (by simp; omega) fun i hi => (hown.lt i hi).1
/-- 'string(b)' of bytes of the call's own. -/
theorem OwnN.str {P : Program} {w : World} {B : Nat} {E : TypeId} {v : Value} {bs : List UInt8} (h : OwnN w B E .u8 v (bs.map UInt8.toNat)) (src dst : TypeId) (hs : P.underlying src = some (.slice E)) (he : P.underlying E = some (.int .u8)) (hd : P.underlying dst = some .string) :
    (convert src dst v).run P w = .ok (.string ⟨bs.toArray⟩) w := by
  obtain ⟨oa, cap, rfl, hnone, hsome, _⟩ := h.shape
  cases oa with
  | none =>
    have hb : bs = [] := by simpa using hnone rfl
    subst hb
    exact run_convert_bytes_nil w src E hs he _ _ dst hd
  | some a =>
    obtain ⟨ha, _, _⟩ := hsome a rfl
    obtain ⟨g, o, sb⟩ := a
    cases ha
    rw [run_convert_bytes_arg (P := P) w src E hs he g 0 (bs.map UInt8.toNat).length cap (bs.map fun b => ((b.toNat : Nat) : Int)) (by simp) (fun i hi => by
      have := OwnN.cell h i hi
      rw [Nat.zero_add, this]
      simp at hi
      simp [hi]) dst hd]
    simp [strOfNums, Function.comp_def]
theorem OwnN.kept2 {w' W : World} {B : Nat} {E : TypeId} {k : IntKind} {v u : Value} {xs : List Nat} {E' : TypeId} {z : Value} (h : OwnN W B E k v xs) (hg : (W.alloc (.cells #[z] E')).grownBy w' u.ownBlock) (hne : v.ownBlock = none ∨ v.ownBlock ≠ u.ownBlock) : OwnN w' B E k v xs :=
  (h.alloc _).kept hg hne

theorem grownBy_trans {w w1 w2 : World} {row : Option Nat} (h1 : w.grownBy w1 row) (h2 : w1.grownBy w2 row) : w.grownBy w2 row :=
  ⟨h2.os.trans h1.os, h2.tape.trans h1.tape, h2.output.trans h1.output, Nat.le_trans h1.size h2.size, fun k hk hne => (h2.block k (Nat.lt_of_lt_of_le hk h1.size) hne).trans (h1.block k hk hne)⟩
theorem grownBy_drew {w w1 : World} {row : Option Nat} (h : w.grownBy w1 row) : w.grownBy w1.drew row := ⟨h.os, h.tape, h.output, h.size, h.block⟩
theorem grownBy_set {w w1 : World} {g : Nat} (h : w.grownBy w1 (some g)) (j : Nat) (u : Value) : w.grownBy (w1.setCell ⟨g, j, none⟩ u) (some g) :=
  grownBy_trans h ⟨rfl, rfl, rfl, by simp, fun k _ hk => Below.heap_setCell _ _ _ _ (fun e => hk (by rw [e]))⟩
theorem grownBy_alloc {w w1 : World} {row : Option Nat} (h : w.grownBy w1 row) (o : Obj) : w.grownBy (w1.alloc o) row :=
  grownBy_trans h (World.grownBy_alloc _ _ _)
theorem below_grown {B : Nat} {w w' : World} {row : Option Nat} (h : w.grownBy w' row) (hB : B ≤ w.heap.size) (hr : ∀ k, row = some k → B ≤ k) : Below B w w' :=
  (Below.refl B w).grown h hB hr
/-- a slice of numbers that is only read, in a later world that may have written one other block -/
theorem OwnN.cellIn {w w' : World} {B : Nat} {E : TypeId} {k : IntKind} {g n cap : Nat} {xs : List Nat} {row : Option Nat} (h : OwnN w B E k (.slice (some ⟨g, 0, none⟩) n cap) xs) (hg : w.grownBy w' row) (hne : some g ≠ row) (j : Nat) (hj : j < xs.length) :
    w'.cell? ⟨g, j, none⟩ = some (.int k ((xs[j] : Nat) : Int)) :=
  (h.kept hg (Or.inr hne)).cell j hj
theorem OwnN.at {w : World} {B : Nat} {E : TypeId} {k : IntKind} {oa : Option Addr} {n cap : Nat} {xs : List Nat} (h : OwnN w B E k (.slice oa n cap) xs) (hx : 0 < xs.length) : ∃ g, oa = some ⟨g, 0, none⟩ ∧ B ≤ g ∧ g < w.heap.size := by
  rcases h.2 with ⟨hv, hn⟩ | ⟨g, c, cur, hv, hb, hg, hle, hcm, hsz, htk⟩
  · omega
  · cases hv
    exact ⟨g, rfl, hb, (Array.getElem?_eq_some_iff.1 hg).1⟩
theorem OwnN.len {w : World} {B : Nat} {E : TypeId} {k : IntKind} {oa : Option Addr} {n cap : Nat} {xs : List Nat} (h : OwnN w B E k (.slice oa n cap) xs) : n = xs.length := by
  obtain ⟨_, _, hv, _⟩ := h.shape
  cases hv; rfl

theorem or_low (x c : Nat) (hc : c ≤ 1) : 2 * x ||| c = 2 * x + c := by
  have h := Nat.shiftLeft_add_eq_or_of_lt (show c < 2 ^ 1 by omega) x
  rw [Nat.shiftLeft_eq] at h
  rw [show 2 * x = x * 2 ^ 1 by omega]; exact h.symm
theorem mask32 (y : Nat) (hy : y < 18446744073709551616) : bits BinOp.and IntKind.u64 (y : Int) 4294967295 = ((y % 4294967296 : Nat) : Int) := by
  have h := andU y 4294967295 hy (by omega)
  have e : y &&& 4294967295 = y % 4294967296 := Nat.and_two_pow_sub_one_eq_mod y 32
  rw [e] at h; exact h

theorem and_bit (x p : Nat) (hx : x < 18446744073709551616) : bits BinOp.and IntKind.u64 ((x : Int) / 2 ^ p) 1 = ((x / 2 ^ p % 2 : Nat) : Int) := by
  have h := and_one_u64 ((x : Int) / 2 ^ p) (Int.ediv_nonneg (by omega) (by
    have : (0 : Int) < 2 ^ p := Int.pow_pos (by omega)
    omega)) (by
    have e : ((x : Int) / 2 ^ p) = ((x / 2 ^ p : Nat) : Int) := by simp
    have := Nat.div_le_self x (2 ^ p)
    rw [e]; omega)
  rw [h]; simp

end Go.Proofs.Ytmcejefeloljiaa

/-
  The walks of package naturals.
-/
namespace Go.Proofs.Ytmcejefeloljiaa
open Go.RowKit Nm

theorem info_u64 : (Try.prog.info? 159).map (fun i => (i.zero, i.size, i.bytes)) = some (some (.int .u64 0), 1, 8) := by kernel_rfl
abbrev OwnU (w : World) (B : Nat) (v : Value) (xs : List Nat) : Prop := OwnN w B 159 .u64 v xs

theorem isN_pos {s : ByteArray} (h : 0 < s.size) : isN s = (((s[0].toNat : Nat) : Int) != 0) := by
  obtain ⟨⟨l⟩⟩ := s
  cases l with
  | nil => simp [ByteArray.size] at h
  | cons b l =>
    show (b != 0) = ((b.toNat : Int) != 0)
    rw [Bool.eq_iff_iff, bne_iff_ne, bne_iff_ne]
    constructor
    · intro h h2; apply h; apply UInt8.toNat_inj.1; simpa using h2
    · intro h h2; subst h2; simp at h
theorem isN_nil {s : ByteArray} (h : ¬ 0 < s.size) : isN s = true := by
  obtain ⟨⟨l⟩⟩ := s
  cases l with
  | nil => rfl
  | cons b l => simp [ByteArray.size] at h

set_option maxHeartbeats 400000 in
theorem natural_any (s : ByteArray) (w : World) :
    Calls Try.prog 109 #[.string s] w fun e w' => e = .returned (.bool (isN s)) ∧ w = w' := by
  by_cases h0 : 0 < s.size
  · have h1 : s.toList.isEmpty = false := isEmpty_false h0
    go_enter Try.func109, Try.ntmps109
    go_wp2
    go_ret
    exact ⟨ret_bool (isN_pos h0).symm, rfl⟩
  · have h1 : s.toList.isEmpty = true := isEmpty_true h0
    go_enter Try.func109, Try.ntmps109
    go_wp2
    go_ret
    exact ⟨ret_bool (isN_nil h0).symm, rfl⟩

theorem words_bits (x c p : Nat) (hx : x < B32) (hc : c < 256) (hp : p % 8 = 0) :
    bits BinOp.or IntKind.u64 (x : Int) (IntKind.u64.wrap (IntKind.u64.wrap (c : Int) * 2 ^ (p % 32))) = ((x ||| (c <<< (p % 32)) : Nat) : Int) := by
  have h1 : p % 32 ≤ 24 := by omega
  have h2 : c <<< (p % 32) < 2 ^ 32 := by
    rw [Nat.shiftLeft_eq]
    have : 2 ^ (p % 32) ≤ 2 ^ 24 := Nat.pow_le_pow_right (by omega) h1
    have := Nat.mul_le_mul (show c ≤ 255 by omega) this
    simp at this ⊢; omega
  rw [wrapU c (by omega)]
  have e : (c : Int) * 2 ^ (p % 32) = ((c <<< (p % 32) : Nat) : Int) := by rw [Nat.shiftLeft_eq]; simp
  rw [e, wrapU _ (by simp at h2; omega), orU _ _ (by unfold B32 at hx; omega) (by simp at h2; omega)]

theorem words_step {w wr : World} {s : ByteArray} {q k x : Nat} {B : Nat} (hk : k < s.size)
    (hx : x = wnum s k / B32 ^ ((s.size - 1 - k) / 4) % B32)
    (hown : OwnU wr B (.slice (some ⟨w.heap.size, 0, none⟩) q q) (dgl q (wnum s k))) (hbl : Below w.heap.size w wr) (n : Int)
    (hn : n = ((x ||| (s[k].toNat <<< (8 * ((s.size - 1 - k) % 4))) : Nat) : Int)) :
    OwnU (wr.setCell ⟨w.heap.size, (s.size - 1 - k) / 4, none⟩ (.int .u64 n)).drew B (.slice (some ⟨w.heap.size, 0, none⟩) q q) (dgl q (wnum s (k + 1))) ∧
    Below w.heap.size w (wr.setCell ⟨w.heap.size, (s.size - 1 - k) / 4, none⟩ (.int .u64 n)).drew := by
  obtain ⟨h1, h2⟩ := OwnN.stored hown ((s.size - 1 - k) / 4) (x ||| (s[k].toNat <<< (8 * ((s.size - 1 - k) % 4))))
  subst hn
  refine ⟨?_, (hbl.setCell (p := ⟨w.heap.size, (s.size - 1 - k) / 4, none⟩) (Nat.le_refl _) _).drew⟩
  have e : dgl q (wnum s (k + 1)) = (dgl q (wnum s k)).set ((s.size - 1 - k) / 4) (x ||| (s[k].toNat <<< (8 * ((s.size - 1 - k) % 4)))) := by
    have h := dgl_or q (wnum s k) s[k].toNat (8 * (s.size - 1 - k)) (by
      have hb := s[k].toNat_lt
      have : 2 ^ 8 ≤ 2 ^ (32 - 8 * (s.size - 1 - k) % 32) := Nat.pow_le_pow_right (by omega) (by omega)
      omega)
    rw [show 8 * (s.size - 1 - k) / 32 = (s.size - 1 - k) / 4 by omega, show 8 * (s.size - 1 - k) % 32 = 8 * ((s.size - 1 - k) % 4) by omega] at h
    rw [wnum_succ s k hk, hx, h]
  rw [e]
  exact h1

set_option maxHeartbeats 400000 in
theorem words_any (s : ByteArray) (w : World) (hs : s.size ≤ 4096) :
    Calls Try.prog 107 #[.string s] w fun e w' => ∃ v, e = .returned v ∧ OwnU w' w.heap.size v (dgl ((s.size + 3) / 4) (nv s)) ∧ Below w.heap.size w w' := by
  obtain ⟨i0, hi, hz0, hz1, hz2⟩ := info_parts info_u64
  go_enter Try.func107, Try.ntmps107
  go_wp2_with (at_make; refine wpList_make_full _ rfl _ _ 153 rfl w.heap.size 159 i0 (.int .u64 0) 1 Try.underlying153 hi hz0 hz1 .i64 .i64 _ _ ((s.size + 3) / 4) rfl rfl ?b1 ?b2 ?b3 ?b4 ?b5 ?_)
  case b1 => omega
  case b2 => omega
  case b3 => rw [hz2]; omega
  case b4 => unfold maxLen; omega
  case b5 => exact Nat.le_refl _
  intro w1 hown hgrow
  have hown1 := OwnN.made hown
  have hb1 := (Below.refl w.heap.size w).grown hgrow (Nat.le_refl _) (by simp)
  clear hown hgrow hi hz0 hz1 hz2
  generalize hq : (s.size + 3) / 4 = q
  have Hq := Lib.hid hq; clear hq
  go_wp2_with fail
  go_loopw [14] (fun i wr => ∃ k : Nat, k ≤ s.size ∧ i = .int .i64 k ∧ OwnU wr w.heap.size (.slice (some ⟨w.heap.size, 0, none⟩) q q) (dgl q (wnum s k)) ∧ Below w.heap.size w wr) (fun i _ => s.size - (intOf i).toNat)
  case atStart => exact ⟨0, Nat.zero_le _, rfl, by rw [wnum_zero, dgl_zero, ← Hq.out]; exact hown1, hb1⟩
  case round =>
    obtain ⟨k, hk, rfl, hown, hbl⟩ := hrel
    clear hown1 hb1
    by_cases hlt : k < s.size
    · have hj : (s.size - 1 - k) / 4 < q := by rw [← Hq.out]; omega
      have hc := OwnN.cell hown ((s.size - 1 - k) / 4) (by rw [dgl_length]; exact hj)
      have hf := OwnN.frozen hown ((s.size - 1 - k) / 4)
      rw [dgl_get q _ _ hj] at hc
      generalize hx : wnum s k / B32 ^ ((s.size - 1 - k) / 4) % B32 = x at hc
      have Hx := Lib.hid hx; clear hx
      go_wp2_with fail
      go_region
      go_wp2_with fail
      go_roundw
      case rel =>
        refine ⟨k + 1, by omega, by go_num, words_step hlt Hx.out.symm hown hbl _ ?_⟩
        have h := words_bits x s[k].toNat (8 * ((s.size - 1 - k) % 4)) (by rw [← Hx.out]; exact Nat.mod_lt _ (by unfold B32; omega)) s[k].toNat_lt (by omega)
        rw [show 8 * ((s.size - 1 - k) % 4) % 32 = 8 * ((s.size - 1 - k) % 4) by omega] at h
        exact h
      case measure => simp [intOf]; omega
    · obtain rfl : k = s.size := by omega
      go_wp2_with fail
      go_ret
      exact ⟨_, rfl, by rw [Hq.out, ← wnum_all]; exact hown, hbl⟩

/-- 'words' of a natural number: its digits. -/
theorem words_nat (s : ByteArray) (w : World) (hs : s.size ≤ 4096) (hn : isN s = true) :
    Calls Try.prog 107 #[.string s] w fun e w' => ∃ v, e = .returned v ∧ OwnU w' w.heap.size v (digs (nv s)) ∧ Below w.heap.size w w' := by
  rw [← words_digs s hn]; exact words_any s w hs


set_option maxHeartbeats 400000 in
theorem check_any (b cap : Nat) (ss : List ByteArray) (w : World) (hl : ss.length ≤ 4096) (hc : ∀ j (h : j < ss.length), w.cell? ⟨b, j, none⟩ = some (.string ss[j])) (hz : ∀ s ∈ ss, s.size ≤ maxLen) :
    Calls Try.prog 105 #[.slice (some ⟨b, 0, none⟩) ss.length cap] w fun e w' => e = .returned (.int .i64 (chkN ss)) ∧ w = w' := by
  unfold maxLen at hz
  have HC := Lib.hid hc; clear hc
  have HZ := Lib.hid hz; clear hz
  go_enter Try.func105, Try.ntmps105
  go_wp2_with fail
  go_loop [9] (fun i => ∃ k : Nat, k ≤ ss.length ∧ i = .int .i64 k ∧ ∀ j (h : j < ss.length), j < k → isN ss[j] = true) (fun i => ss.length - (intOf i).toNat)
  case atStart => exact ⟨0, Nat.zero_le _, rfl, fun j _ h => by omega⟩
  case round =>
    obtain ⟨k, hk, rfl, hall⟩ := hrel
    have HA := Lib.hid hall; clear hall
    by_cases hlt : k < ss.length
    · have hc := HC.out k hlt
      generalize hs : ss[k] = s at hc
      have Hs := Lib.hid hs; clear hs
      by_cases hn : isN s = true
      · have HN := Lib.hid hn; clear hn
        go_wp2_with fail
        refine (natural_any _ _).mono ?_
        rintro e w' ⟨rfl, rfl⟩
        rw [HN.out]
        go_wp2_with fail
        go_round
        case rel =>
          refine ⟨k + 1, by omega, by go_num, fun j h hj => ?_⟩
          by_cases hjk : j = k
          · subst hjk; rw [Hs.out]; exact HN.out
          · exact HA.out j h (by omega)
        case measure => simp [intOf]; omega
      · have HN := Lib.hid hn; clear hn
        go_wp2_with fail
        refine (natural_any _ _).mono ?_
        rintro e w' ⟨rfl, rfl⟩
        rw [Bool.eq_false_iff.2 HN.out]
        go_wp2_with fail
        go_ret
        refine ⟨ret_int ?_, rfl⟩
        rw [chkN, if_neg]
        intro h
        exact HN.out (by rw [← Hs.out]; exact List.all_eq_true.1 h _ (List.getElem_mem _))
    · obtain rfl : k = ss.length := by omega
      have hall : ss.all isN = true := List.all_eq_true.2 fun x hx => by
        obtain ⟨j, h, rfl⟩ := List.mem_iff_getElem.1 hx
        exact HA.out j h h
      have HL := Lib.hid hall; clear hall
      go_wp2_with fail
      go_loop [19] (fun i => ∃ k : Nat, k ≤ ss.length ∧ i = .int .i64 k ∧ ∀ j (h : j < ss.length), j < k → ss[j].size ≤ 256) (fun i => ss.length - (intOf i).toNat)
      case atStart => exact ⟨0, Nat.zero_le _, rfl, fun j _ h => by omega⟩
      case round =>
        obtain ⟨k, hk, rfl, hall⟩ := hrel
        have HB := Lib.hid hall; clear hall
        by_cases hlt2 : k < ss.length
        · have hc := HC.out k hlt2
          have hz := HZ.out ss[k] (List.getElem_mem _)
          generalize hs : ss[k] = s at hc hz
          have Hs := Lib.hid hs; clear hs
          by_cases hn : 256 < s.size
          · go_wp2_with fail
            go_ret
            refine ⟨ret_int ?_, rfl⟩
            rw [chkN, if_pos HL.out, if_neg]
            intro h
            have := List.all_eq_true.1 h ss[k] (List.getElem_mem _)
            rw [Hs.out] at this
            simp at this; omega
          · go_wp2_with fail
            go_round
            case rel =>
              refine ⟨k + 1, by omega, by go_num, fun j h hj => ?_⟩
              by_cases hjk : j = k
              · subst hjk; rw [Hs.out]; omega
              · exact HB.out j h (by omega)
            case measure => simp [intOf]; omega
        · obtain rfl : k = ss.length := by omega
          go_wp2_with fail
          go_ret
          refine ⟨ret_int ?_, rfl⟩
          rw [chkN, if_pos HL.out, if_pos]
          exact List.all_eq_true.2 fun x hx => by
            obtain ⟨j, h, rfl⟩ := List.mem_iff_getElem.1 hx
            simpa using HB.out j h h

set_option maxHeartbeats 400000 in
theorem trim_at (B : Nat) (oa : Option Addr) (cap : Nat) (xs : List Nat) (w : World) (hown : OwnU w B (.slice oa xs.length cap) xs) (hs : small xs) (hl : xs.length ≤ 1048576) :
    Calls Try.prog 153 #[.slice oa xs.length cap] w fun e w' => e = .returned (.slice oa (digs (dv xs)).length cap) ∧ w' = w := by
  obtain ⟨oa', cap', hv, hnone, hsome, hcap, hcm⟩ := hown.shape
  cases hv
  unfold maxLen at hcm
  have HN := Lib.hid hnone; clear hnone
  have HS := Lib.hid hsome; clear hsome
  have HO := Lib.hid hown; clear hown
  go_enter Try.func153, Try.ntmps153
  go_wp2_with fail
  go_loop [0] (fun l => ∃ m : Nat, m ≤ xs.length ∧ l = .slice oa m cap ∧ dv (xs.take m) = dv xs) (fun l => match l with | .slice _ m _ => m | _ => 0)
  case atStart => exact ⟨xs.length, Nat.le_refl _, rfl, by rw [List.take_length]⟩
  case round =>
    obtain ⟨m, hm, rfl, hd⟩ := hrel
    have HD := Lib.hid hd; clear hd
    by_cases h0 : 0 < m
    · obtain ⟨a, rfl⟩ : ∃ a, oa = some a := by
        cases oa with
        | some a => exact ⟨a, rfl⟩
        | none => have h := HN.out rfl; subst h; simp at hm; omega
      obtain ⟨ha, hB, hlt⟩ := HS.out a rfl
      obtain ⟨g, o, sb⟩ := a
      cases ha
      have hc := OwnN.cell HO.out (m - 1) (by omega)
      generalize hx : xs[m - 1] = x at hc
      have Hx := Lib.hid hx; clear hx
      by_cases hz : x = 0
      · have hz1 : ((x : Int) == 0) = true := by simp [hz]
        go_wp2_with fail
        go_round
        case rel => exact ⟨m - 1, by omega, rfl, by
          rw [← HD.out]; have := dv_take_zero xs (m - 1) (by omega) (by rw [Hx.out]; exact hz)
          rw [show m - 1 + 1 = m by omega] at this; exact this.symm⟩
        case measure => show m - 1 < m; omega
      · have hz1 : ((x : Int) == 0) = false := by simp [hz]
        go_wp2_with fail
        go_ret
        have h := congrArg List.length (take_digs xs hs m hm HD.out (fun _ => by rw [Hx.out]; exact hz))
        rw [List.length_take, Nat.min_eq_left hm] at h
        exact ⟨by rw [← h]; rfl, rfl⟩
    · obtain rfl : m = 0 := by omega
      go_wp2_with fail
      go_ret
      have h := congrArg List.length (take_digs xs hs 0 hm HD.out (fun h => by omega))
      rw [List.length_take, Nat.min_eq_left hm] at h
      exact ⟨by rw [← h]; rfl, rfl⟩

/-- what 'trim' hands back -/
theorem OwnN.trimmed {w : World} {B : Nat} {E : TypeId} {k : IntKind} {oa : Option Addr} {n cap : Nat} {xs : List Nat} (h : OwnN w B E k (.slice oa n cap) xs) (hs : small xs) : OwnN w B E k (.slice oa (digs (dv xs)).length cap) (digs (dv xs)) := by
  obtain ⟨h1, h2⟩ := trim_split xs hs
  have h3 := OwnN.cut h (digs (dv xs)).length h2 (fun he => by
    obtain ⟨_, _, hv, hn, _⟩ := h.shape
    cases hv
    rw [hn he] at h2 ⊢
    simpa using h2)
  have e : xs.take (digs (dv xs)).length = digs (dv xs) := by
    generalize digs (dv xs) = ys at *
    rw [h1]; exact List.take_left
  rw [e] at h3
  exact h3

theorem trim_any (B : Nat) (v : Value) (xs : List Nat) (w : World) (hown : OwnU w B v xs) (hs : small xs) (hl : xs.length ≤ 1048576) :
    Calls Try.prog 153 #[v] w fun e w' => w = w' ∧ ∃ v', e = .returned v' ∧ OwnU w B v' (digs (dv xs)) ∧ v'.ownBlock = v.ownBlock := by
  obtain ⟨oa, cap, rfl, _, _⟩ := hown.shp
  refine (trim_at B oa cap xs w hown hs hl).mono ?_
  rintro e w' ⟨rfl, rfl⟩
  exact ⟨rfl, _, rfl, OwnN.trimmed hown hs, by rw [ownBlock_slice, ownBlock_slice]⟩

end Go.Proofs.Ytmcejefeloljiaa

/-
  The walks of package naturals: text, short.
-/
namespace Go.Proofs.Ytmcejefeloljiaa
open Go.RowKit Nm

theorem info_u8 : (Try.prog.info? 5).map (fun i => (i.zero, i.size, i.bytes)) = some (some (.int .u8 0), 1, 1) := by kernel_rfl
abbrev OwnB (w : World) (B : Nat) (v : Value) (bs : List UInt8) : Prop := OwnN w B 5 .u8 v (bs.map UInt8.toNat)

set_option maxHeartbeats 400000 in
theorem text_any (B : Nat) (v : Value) (xs : List Nat) (w : World) (hown : OwnU w B v xs) (hs : small xs) (hl : xs.length ≤ 1048576) :
    Calls Try.prog 108 #[v] w fun e w' => e = .returned (.string (encS (dv xs))) ∧ Below w.heap.size w w' := by
  have HO := Lib.hid hown; clear hown
  go_enter Try.func108, Try.ntmps108
  go_wp2_with fail
  refine (trim_any B v xs w HO.out hs hl).mono ?_
  rintro e w' ⟨rfl, v, rfl, hown, hob⟩
  have hln : (digs (dv xs)).length ≤ 1048576 := by
    have := (trim_split xs hs).2; omega
  generalize hV : dv xs = V at *
  have HV := Lib.hid hV
  clear hob HO hV hs hl
  obtain ⟨oa, cap, rfl, hnone, hsome, hcap, hcm⟩ := hown.shape
  unfold maxLen at hcm
  have HN := Lib.hid hnone; clear hnone
  have HS := Lib.hid hsome; clear hsome
  have HO := Lib.hid hown; clear hown
  go_wp2_with fail
  go_loopw [3, 4] (fun b i wr => ∃ j : Nat, j ≤ (digs V).length ∧ i = .int .i64 ((j : Int) - 1) ∧ OwnB wr w.heap.size b (top V (4 * j)) ∧ Below w.heap.size w wr) (fun _ i _ => (intOf i + 1).toNat)
  case atStart => exact ⟨(digs V).length, Nat.le_refl _, rfl, by
    rw [top_all V _ (by rw [two_256, show 8 * (4 * (digs V).length) = 32 * (digs V).length by omega, ← B32_pow]; exact (digs_length_le _ _).1 (Nat.le_refl _))]; exact OwnN.nil _ _ _ _, Below.refl _ _⟩
  case round =>
    obtain ⟨j, hj, rfl, hb, hbl⟩ := hrel
    by_cases h0 : 0 < j
    · obtain ⟨a, rfl⟩ : ∃ a, oa = some a := by
        cases oa with
        | some a => exact ⟨a, rfl⟩
        | none => have h := HN.out rfl; rw [h] at hj; simp at hj; omega
      obtain ⟨ha, hB, hlt⟩ := HS.out a rfl
      obtain ⟨g, o, sb⟩ := a
      cases ha
      have hlt : g < w.heap.size := hlt
      have hc := OwnN.cell HO.out (j - 1) (by omega)
      rw [digs_get] at hc
      generalize hx : V / B32 ^ (j - 1) % B32 = x at hc
      have hx2 : x < 4294967296 := by rw [← hx]; exact Nat.mod_lt _ (by unfold B32; omega)
      have Hx := Lib.hid hx; clear hx
      have hj1 : decide (1 ≤ (j : Int)) = true := by simp; omega
      have hlen := fun p => Nat.le_trans (top_length V p) (enc_length_digs V)
      have HLen := Lib.hid hlen; clear hlen
      obtain ⟨wo, rfl⟩ : ∃ wo, wo = wr := ⟨_, rfl⟩
      go_wp2_with fail
      go_loopw [3, 5] (fun b i wr => ∃ k : Nat, k ≤ 4 ∧ i = .int .i64 ((k : Int) - 1) ∧ OwnB wr w.heap.size b (top V (4 * (j - 1) + k)) ∧ Below w.heap.size w wr) (fun _ i _ => (intOf i + 1).toNat)
      case atStart => exact ⟨4, by omega, rfl, by rw [show 4 * (j - 1) + 4 = 4 * j by omega]; exact hb, hbl⟩
      case round =>
        clear hb hbl
        obtain ⟨k, hk, rfl, hb, hbl⟩ := hrel
        by_cases h1 : 0 < k
        · have hcw : wr.cell? ⟨g, j - 1, none⟩ = some (.int .u64 (x : Int)) := (hbl.cell (p := ⟨g, j - 1, none⟩) hlt).trans hc
          have htop := top_succ V (4 * (j - 1) + (k - 1))
          rw [show 4 * (j - 1) + (k - 1) + 1 = 4 * (j - 1) + k by omega, ← byte_of V (j - 1) (k - 1) (by omega), Hx.out] at htop
          have hlb := HLen.out (4 * (j - 1) + k)
          generalize top V (4 * (j - 1) + k) = bs at *
          obtain ⟨ob, cb, hv, _, _, hcb, hcbm⟩ := hb.shape
          rw [List.length_map] at hv hcb
          subst hv
          unfold maxLen at hcbm
          have HT := Lib.hid htop; clear htop
          by_cases hd : (x : Int) / 2 ^ (8 * (k - 1)) % 256 = 0
          · have hd2 : x / 2 ^ (8 * (k - 1)) % 256 = 0 := by
              have : ((x / 2 ^ (8 * (k - 1)) % 256 : Nat) : Int) = 0 := by simpa using hd
              omega
            by_cases hz : 0 < bs.length
            · rw [hd2] at HT
              have HT2 : Hid (top V (4 * (j - 1) + (k - 1)) = bs ++ [UInt8.ofNat 0]) := by
                have := HT.out; rw [if_neg (by omega)] at this; exact this
              clear hd2 HT
              go_wp2_with (at_builtin; refine append1 wr rfl _ _ 149 rfl w.heap.size 5 .u8 1 info_u8 Try.underlying149 _ (bs.map UInt8.toNat) hb rfl _ _ 0 rfl rfl (by rw [List.length_map]; omega) (by omega) hbl.size ?_)
              intro v' w1 hown' hgrow
              have hbl1 := grown_below hbl hb hgrow hbl.size
              clear hb hgrow hbl hcw
              go_wp2_with fail
              go_roundw
              case rel => exact ⟨k - 1, by omega, by rw [show ((k - 1 : Nat) : Int) = (k : Int) - 1 by omega], by rw [HT2.out]; unfold OwnB; simpa using hown', hbl1⟩
              case measure => simp [intOf]; omega
            · rw [hd2] at HT
              have HT2 : Hid (top V (4 * (j - 1) + (k - 1)) = []) := by
                have := HT.out; rw [if_pos (by omega)] at this; exact this
              have hbs : bs = [] := List.eq_nil_of_length_eq_zero (by omega)
              have HBS := Lib.hid hbs
              clear hd2 HT hbs
              go_wp2_with fail
              go_roundw
              case rel => exact ⟨k - 1, by omega, by rw [show ((k - 1 : Nat) : Int) = (k : Int) - 1 by omega], by rw [HT2.out, ← HBS.out]; exact hb, hbl⟩
              case measure => simp [intOf]; omega
          · have hd2 : ((x / 2 ^ (8 * (k - 1)) % 256 : Nat) : Int) = (x : Int) / 2 ^ (8 * (k - 1)) % 256 := by simp
            have hd3 : x / 2 ^ (8 * (k - 1)) % 256 ≠ 0 := fun h => hd (by rw [← hd2, h]; rfl)
            have HT2 : Hid (top V (4 * (j - 1) + (k - 1)) = bs ++ [UInt8.ofNat (x / 2 ^ (8 * (k - 1)) % 256)]) := by
              have := HT.out; rw [if_neg (by omega)] at this; exact this
            have HD := Lib.hid hd2
            clear hd2 HT hd3
            go_wp2_with (at_builtin; refine append1 wr rfl _ _ 149 rfl w.heap.size 5 .u8 1 info_u8 Try.underlying149 _ (bs.map UInt8.toNat) hb rfl _ _ (x / 2 ^ (8 * (k - 1)) % 256) HD.out.symm rfl (by rw [List.length_map]; omega) (by omega) hbl.size ?_)
            intro v' w1 hown' hgrow
            have hbl1 := grown_below hbl hb hgrow hbl.size
            clear hb hgrow hbl hcw
            go_wp2_with fail
            go_roundw
            case rel => exact ⟨k - 1, by omega, by rw [show ((k - 1 : Nat) : Int) = (k : Int) - 1 by omega], by rw [HT2.out]; unfold OwnB; simpa using hown', hbl1⟩
            case measure => simp [intOf]; omega
        · obtain rfl : k = 0 := by omega
          go_wp2_with fail
          go_roundw
          case rel => exact ⟨j - 1, by omega, by rw [show ((j - 1 : Nat) : Int) = (j : Int) - 1 by omega], hb, hbl⟩
          case measure => simp [intOf]; omega
    · obtain rfl : j = 0 := by omega
      rw [top_zero] at hb
      have hcv := fun d hd => OwnN.str (P := Try.prog) hb 149 d Try.underlying149 Try.underlying5 hd
      go_wp2_with fail
      go_ret
      exact ⟨ret_string (by rw [HV.out]; rfl), hbl⟩

set_option maxHeartbeats 400000 in
theorem short_any (B : Nat) (v : Value) (xs : List Nat) (w : World) (hown : OwnU w B v xs) (hs : small xs) (hl : xs.length ≤ 1048576) :
    Calls Try.prog 159 #[v] w fun e w' => e = .returned (.tuple #[.string (shortN (dv xs)).1, .int .i64 (shortN (dv xs)).2]) ∧ Below w.heap.size w w' := by
  have HO := Lib.hid hown; clear hown
  have hln : (digs (dv xs)).length ≤ 1048576 := by
    have := (trim_split xs hs).2; omega
  have hsz : (encS (dv xs)).size ≤ 4194304 := by
    have := enc_length_digs (dv xs)
    rw [size_encS]; omega
  go_enter Try.func159, Try.ntmps159
  go_wp2_with fail
  refine (text_any B v xs w HO.out hs hl).mono ?_
  rintro e w1 ⟨rfl, hbl⟩
  by_cases h : (encS (dv xs)).size ≤ 256
  · have E : Hid (shortN (dv xs) = (encS (dv xs), 0)) := if_pos h
    go_wp2_with fail
    go_ret2
    exact ⟨by rw [E.out]; rfl, hbl⟩
  · have E : Hid (shortN (dv xs) = (⟨#[]⟩, 2)) := if_neg h
    go_wp2_with fail
    go_ret2
    exact ⟨by rw [E.out]; rfl, hbl⟩

end Go.Proofs.Ytmcejefeloljiaa

/-
  The walks of package naturals: less, double.
-/
namespace Go.Proofs.Ytmcejefeloljiaa
open Go.RowKit Nm

/-- what is left of the subtrahend's digits, and what is done: the row -/
def lessRow (R A : List Nat) : List Nat := R ++ A.drop R.length
theorem lessRow_length (R A : List Nat) (h : R.length ≤ A.length) : (lessRow R A).length = A.length := by simp [lessRow]; omega
theorem lessRow_get (R A : List Nat) (k : Nat) (hR : R.length = k) (h : k < A.length) : (lessRow R A)[k]'(by rw [lessRow_length R A (by omega)]; exact h) = A[k] := by
  subst hR
  simp [lessRow, List.getElem_append_right]
theorem lessRow_set (R A : List Nat) (k r : Nat) (hR : R.length = k) (h : k < A.length) : (lessRow R A).set k r = lessRow (R ++ [r]) A := by
  subst hR
  unfold lessRow
  rw [List.set_append_right _ _ (Nat.le_refl _), Nat.sub_self, List.drop_eq_getElem_cons h, List.set_cons_zero]
  simp

/-- the relation of the loop of 'less' -/
def lessRel (w : World) (B n m g cap : Nat) (k : Nat) (c : Value) (wr : World) : Prop :=
  ∃ (c' : Nat) (R : List Nat), c' ≤ 1 ∧ c = .int .u64 (c' : Int) ∧ R.length = k ∧ small R ∧ dv R + dv ((digs m).take k) = dv ((digs n).take k) + c' * B32 ^ k ∧
      OwnU wr B (.slice (some ⟨g, 0, none⟩) (digs n).length cap) (lessRow R (digs n)) ∧ w.grownBy wr (some g)
theorem less_rel1 {w wr : World} {B n m g cap k c c' x y r : Nat} {R : List Nat} {z zc : Int} (hR : R.length = k) (hs : small R) (hlt : k < (digs n).length)
    (hI : dv R + dv ((digs m).take k) = dv ((digs n).take k) + c * B32 ^ k) (hown : OwnU wr B (.slice (some ⟨g, 0, none⟩) (digs n).length cap) (lessRow R (digs n))) (hgr : w.grownBy wr (some g))
    (hx : (digs n).getD k 0 = x) (hy : (digs m).getD k 0 = y) (hc : c' ≤ 1) (hr : r + c + y = x + c' * B32) (hrs : r < B32) (hz : z = (r : Int)) (hzc : zc = (c' : Int)) :
    lessRel w B n m g cap (k + 1) (.int .u64 zc) (wr.setCell ⟨g, k, none⟩ (.int .u64 z)) := by
  subst hz hzc
  refine ⟨c', R ++ [r], hc, rfl, by simp [hR], small_snoc hs hrs, less_step R _ _ k c c' r hR hI (by rw [hx, hy]; exact hr), ?_, grownBy_set hgr _ _⟩
  rw [← lessRow_set R (digs n) k r hR hlt]
  exact (OwnN.stored hown k r).1
theorem less_rel2 {w wr : World} {B n m g cap k c c' x y r : Nat} {R : List Nat} {z zc z' : Int} (hR : R.length = k) (hs : small R) (hlt : k < (digs n).length)
    (hI : dv R + dv ((digs m).take k) = dv ((digs n).take k) + c * B32 ^ k) (hown : OwnU wr B (.slice (some ⟨g, 0, none⟩) (digs n).length cap) (lessRow R (digs n))) (hgr : w.grownBy wr (some g))
    (hx : (digs n).getD k 0 = x) (hy : (digs m).getD k 0 = y) (hc : c' ≤ 1) (hr : r + c + y = x + c' * B32) (hrs : r < B32) (hz : z = (r : Int)) (hzc : zc = (c' : Int)) (q : Nat) (hq : z' = (q : Int)) :
    lessRel w B n m g cap (k + 1) (.int .u64 zc) ((wr.setCell ⟨g, k, none⟩ (.int .u64 z')).setCell ⟨g, k, none⟩ (.int .u64 z)) := by
  subst hz hzc hq
  refine ⟨c', R ++ [r], hc, rfl, by simp [hR], small_snoc hs hrs, less_step R _ _ k c c' r hR hI (by rw [hx, hy]; exact hr), ?_, grownBy_set (grownBy_set hgr _ _) _ _⟩
  rw [← lessRow_set R (digs n) k r hR hlt]
  have h := (OwnN.stored (OwnN.stored hown k q).1 k r).1
  rw [List.set_set] at h
  exact h

set_option maxHeartbeats 400000 in
theorem less_any (B B' : Nat) (v u : Value) (n m : Nat) (w : World) (hv : OwnU w B v (digs n)) (hu : OwnU w B' u (digs m)) (hmn : m ≤ n) (hln : (digs n).length ≤ 1048576) (hlm : (digs m).length ≤ 1048576) (hne : u.ownBlock = none ∨ u.ownBlock ≠ v.ownBlock) :
    Calls Try.prog 152 #[v, u] w fun e w' => ∃ v', e = .returned v' ∧ OwnU w' B v' (digs (n - m)) ∧ v'.ownBlock = v.ownBlock ∧ w.grownBy w' v.ownBlock := by
  obtain ⟨oa, cap, rfl, h1, h2, hcap, hcm⟩ := hv.shape
  obtain ⟨ob, cap', rfl, h3, h4, hcap', hcm'⟩ := hu.shape
  clear h1 h2 h3 h4
  unfold maxLen at hcm hcm'
  have HO := Lib.hid hv; clear hv
  have HO' := Lib.hid hu; clear hu
  have HNE := Lib.hid hne; clear hne
  go_enter Try.func152, Try.ntmps152
  go_wp2_with fail
  by_cases hn0 : (digs n).length = 0
  · have hn : n = 0 := (digs_eq_nil n).1 (List.eq_nil_of_length_eq_zero hn0)
    subst hn
    have hm : m = 0 := by omega
    subst hm
    refine wp_loop_rounds 1 ?_
    rw [rounds_succ]
    go_wp2_with fail
    refine (trim_any B _ [] w HO.out (by intro x hx; cases hx) (by simp)).mono ?_
    rintro e w' ⟨rfl, v', rfl, hown, hob⟩
    go_wp2_with fail
    go_ret
    exact ⟨v', rfl, hown, hob, World.grownBy.refl _ _⟩
  obtain ⟨g, rfl, hBg, hgw⟩ := OwnN.at HO.out (by omega)
  go_loopw [5, 10] (fun c i wr => ∃ k : Nat, k ≤ (digs n).length ∧ i = .int .i64 k ∧ lessRel w B n m g cap k c wr) (fun _ i _ => (digs n).length - (intOf i).toNat)
  case atStart => exact ⟨0, Nat.zero_le _, rfl, 0, [], by omega, rfl, rfl, (fun x hx => by cases hx), by simp [dv], HO.out, World.grownBy.refl _ _⟩
  case round =>
    obtain ⟨k, hk, rfl, c, R, hc, rfl, hR, hsR, hinv, hown, hgr⟩ := hrel
    have HR := Lib.hid hR; clear hR
    have HI := Lib.hid hinv; clear hinv
    by_cases hlt : k < (digs n).length
    · have hx := lessRow_get R (digs n) k HR.out hlt
      have hcx := OwnN.cell hown k (by rw [lessRow_length R _ (by rw [HR.out]; omega)]; exact hlt)
      rw [hx] at hcx
      have hfx := OwnN.frozen hown k
      clear hx
      have hxs := small_digs n (digs n)[k] (List.getElem_mem _)
      have hgx : (digs n).getD k 0 = (digs n)[k] := by simp [List.getD, hlt]
      generalize hxe : (digs n)[k] = x at *
      clear hxe
      have HGX := Lib.hid hgx; clear hgx
      unfold B32 at hxs
      by_cases hlt2 : k < (digs m).length
      · obtain ⟨g', rfl, _, _⟩ := OwnN.at HO'.out (by omega)
        have hgg : some g' ≠ some g := by
          rcases HNE.out with h | h
          · exact absurd h (by simp [Value.ownBlock])
          · simpa [Value.ownBlock] using h
        have hcy := OwnN.cellIn HO'.out hgr hgg k hlt2
        have hys := small_digs m (digs m)[k] (List.getElem_mem _)
        have hgy : (digs m).getD k 0 = (digs m)[k] := by simp [List.getD, hlt2]
        generalize hye : (digs m)[k] = y at *
        clear hye
        have HGY := Lib.hid hgy; clear hgy
        unfold B32 at hys
        have hgg2 : g' ≠ g := fun h => hgg (by rw [h])
        clear hgg
        by_cases hb : x < c + y
        · go_wp2_with fail
          go_roundw
          case rel => exact ⟨k + 1, by omega, by go_num, less_rel2 (r := x + 4294967296 - (c + y)) (c' := 1) HR.out hsR hlt HI.out hown hgr HGX.out HGY.out (by omega) (by unfold B32; omega) (by unfold B32; omega) (by omega) rfl (x + 4294967296) (by omega)⟩
          case measure => simp [intOf]; omega
        · go_wp2_with fail
          go_roundw
          case rel => exact ⟨k + 1, by omega, by go_num, less_rel1 (r := x - (c + y)) (c' := 0) HR.out hsR hlt HI.out hown hgr HGX.out HGY.out (by omega) (by unfold B32; omega) (by unfold B32; omega) (by omega) rfl⟩
          case measure => simp [intOf]; omega
      · have HGY : Hid ((digs m).getD k 0 = 0) := by
          show (digs m).getD k 0 = 0
          simp [List.getD, List.getElem?_eq_none (by omega : (digs m).length ≤ k)]
        by_cases hb : x < c
        · go_wp2_with fail
          go_roundw
          case rel => exact ⟨k + 1, by omega, by go_num, less_rel2 (r := x + 4294967296 - c) (c' := 1) HR.out hsR hlt HI.out hown hgr HGX.out HGY.out (by omega) (by unfold B32; omega) (by unfold B32; omega) (by omega) rfl (x + 4294967296) (by omega)⟩
          case measure => simp [intOf]; omega
        · go_wp2_with fail
          go_roundw
          case rel => exact ⟨k + 1, by omega, by go_num, less_rel1 (r := x - c) (c' := 0) HR.out hsR hlt HI.out hown hgr HGX.out HGY.out (by omega) (by unfold B32; omega) (by unfold B32; omega) (by omega) rfl⟩
          case measure => simp [intOf]; omega
    · obtain rfl : k = (digs n).length := by omega
      have he := less_end R n m c hsR HR.out hmn hc HI.out
      have HE := Lib.hid he; clear he
      have e1 : lessRow R (digs n) = R := by rw [lessRow, HR.out, List.drop_length, List.append_nil]
      rw [e1] at hown
      clear e1
      go_wp2_with fail
      refine (trim_any B _ R wr hown hsR (by rw [HR.out]; exact hln)).mono ?_
      rintro e w' ⟨rfl, v', rfl, hown', hob⟩
      go_wp2_with fail
      go_ret
      exact ⟨v', rfl, by rw [← HE.out]; exact hown', hob, hgr⟩

end Go.Proofs.Ytmcejefeloljiaa

/-
  The walks of package naturals: double.
-/
namespace Go.Proofs.Ytmcejefeloljiaa
open Go.RowKit Nm

/-- the relation of the loop of 'double' -/
def dblRel (w : World) (B n b0 g cap : Nat) (k : Nat) (c : Value) (wr : World) : Prop :=
  ∃ (c' : Nat) (R : List Nat), c' ≤ 1 ∧ c = .int .u64 (c' : Int) ∧ R.length = k ∧ small R ∧ dv R + c' * B32 ^ k = 2 * dv ((digs n).take k) + b0 ∧
      OwnU wr B (.slice (some ⟨g, 0, none⟩) (digs n).length cap) (lessRow R (digs n)) ∧ w.grownBy wr (some g)
theorem dbl_rel {w wr : World} {B n b0 g cap k c x : Nat} {R : List Nat} {z zc z' : Int} (hR : R.length = k) (hs : small R) (hlt : k < (digs n).length) (hc : c ≤ 1) (hxs : x < B32)
    (hI : dv R + c * B32 ^ k = 2 * dv ((digs n).take k) + b0) (hown : OwnU wr B (.slice (some ⟨g, 0, none⟩) (digs n).length cap) (lessRow R (digs n))) (hgr : w.grownBy wr (some g))
    (hx : (digs n).getD k 0 = x) (hz' : z' = ((2 * x + c : Nat) : Int)) (hz : z = (((2 * x + c) % B32 : Nat) : Int)) (hzc : zc = (((2 * x + c) / B32 : Nat) : Int)) :
    dblRel w B n b0 g cap (k + 1) (.int .u64 zc) ((wr.setCell ⟨g, k, none⟩ (.int .u64 z')).setCell ⟨g, k, none⟩ (.int .u64 z)) := by
  subst hz hzc hz'
  have hB : 0 < B32 := by unfold B32; omega
  refine ⟨(2 * x + c) / B32, R ++ [(2 * x + c) % B32], ?_, rfl, by simp [hR], small_snoc hs (Nat.mod_lt _ hB), ?_, ?_, grownBy_set (grownBy_set hgr _ _) _ _⟩
  · have : (2 * x + c) / B32 < 2 := (Nat.div_lt_iff_lt_mul hB).2 (by omega)
    omega
  · have h := double_step R (digs n) k c b0 hR hI
    rw [hx] at h; exact h
  · rw [← lessRow_set R (digs n) k _ hR hlt]
    have h := (OwnN.stored (OwnN.stored hown k (2 * x + c)).1 k ((2 * x + c) % B32)).1
    rw [List.set_set] at h
    exact h

set_option maxHeartbeats 400000 in
theorem double_any (B : Nat) (v : Value) (n b0 : Nat) (w : World) (hv : OwnU w B v (digs n)) (hb0 : b0 ≤ 1) (hln : (digs n).length ≤ 1048576) (hB : B ≤ w.heap.size) :
    Calls Try.prog 150 #[v, .int .u64 (b0 : Int)] w fun e w' => ∃ v', e = .returned v' ∧ OwnU w' B v' (digs (2 * n + b0)) ∧ w.grownBy w' v.ownBlock := by
  obtain ⟨oa, cap, rfl, hcap, hcm⟩ := hv.shp
  have HO := Lib.hid hv; clear hv
  go_enter Try.func150, Try.ntmps150
  go_wp2_with fail
  by_cases hn0 : (digs n).length = 0
  · have hn : n = 0 := (digs_eq_nil n).1 (List.eq_nil_of_length_eq_zero hn0)
    subst hn
    clear hn0
    have hn0 : (digs 0).length = 0 := rfl
    refine wp_loop_rounds 1 ?_
    rw [rounds_succ]
    by_cases hb : 0 < b0
    · obtain rfl : b0 = 1 := by omega
      go_wp2_with (at_builtin; refine append1 w rfl _ _ 153 rfl B 159 .u64 8 info_u64 Try.underlying153 (.slice oa 0 cap) [] HO.out rfl _ _ 1 rfl rfl (by simp) (by omega) hB ?_)
      intro v' w1 hown' hgrow
      have hbl := grownBy_trans (World.grownBy_alloc w _ _) hgrow
      clear hgrow
      go_wp2_with fail
      go_ret
      exact ⟨v', rfl, hown', by cases oa <;> exact hbl⟩
    · obtain rfl : b0 = 0 := by omega
      go_wp2_with fail
      go_ret
      exact ⟨.slice oa 0 cap, rfl, HO.out, World.grownBy.refl _ _⟩
  obtain ⟨g, rfl, hBg, hgw⟩ := OwnN.at HO.out (by omega)
  go_loopw [1, 8] (fun c i wr => ∃ k : Nat, k ≤ (digs n).length ∧ i = .int .i64 k ∧ dblRel w B n b0 g cap k c wr) (fun _ i _ => (digs n).length - (intOf i).toNat)
  case atStart => exact ⟨0, Nat.zero_le _, rfl, b0, [], by omega, rfl, rfl, (fun x hx => by cases hx), by simp [dv], HO.out, World.grownBy.refl _ _⟩
  case round =>
    obtain ⟨k, hk, rfl, c, R, hc, rfl, hR, hsR, hinv, hown, hgr⟩ := hrel
    have HR := Lib.hid hR; clear hR
    have HI := Lib.hid hinv; clear hinv
    by_cases hlt : k < (digs n).length
    · have hx := lessRow_get R (digs n) k HR.out hlt
      have hcx := OwnN.cell hown k (by rw [lessRow_length R _ (by rw [HR.out]; omega)]; exact hlt)
      rw [hx] at hcx
      have hfx := OwnN.frozen hown k
      clear hx
      have hxs := small_digs n (digs n)[k] (List.getElem_mem _)
      have hgx : (digs n).getD k 0 = (digs n)[k] := by simp [List.getD, hlt]
      generalize hxe : (digs n)[k] = x at *
      clear hxe
      have HGX := Lib.hid hgx; clear hgx
      have hx2 : x < 4294967296 := by unfold B32 at hxs; exact hxs
      go_wp2_with fail
      go_roundw
      case rel =>
        have e1 : bits BinOp.or IntKind.u64 ((x : Int) * 2) (c : Int) = ((2 * x + c : Nat) : Int) := by
          rw [← or_low x c hc, ← orU (2 * x) c (by omega) (by omega)]
          congr 1; omega
        refine ⟨k + 1, by omega, by go_num, dbl_rel HR.out hsR hlt hc hxs HI.out hown hgr HGX.out e1 ?_ ?_⟩
        · rw [e1, mask32 _ (by omega)]; rfl
        · rw [e1]; unfold B32; omega
      case measure => simp [intOf]; omega
    · obtain rfl : k = (digs n).length := by omega
      have hI2 := HI.out
      rw [List.take_length, dv_digs] at hI2
      have he := (double_end R n c b0 hsR HR.out hb0 hI2).1
      clear hI2
      have HE := Lib.hid he; clear he
      have e1 : lessRow R (digs n) = R := by rw [lessRow, HR.out, List.drop_length, List.append_nil]
      rw [e1] at hown
      clear e1
      by_cases hb : 0 < c
      · obtain rfl : c = 1 := by omega
        go_wp2_with (at_builtin; refine append1 wr rfl _ _ 153 rfl B 159 .u64 8 info_u64 Try.underlying153 (.slice (some ⟨g, 0, none⟩) (digs n).length cap) R hown rfl _ _ 1 rfl rfl (by rw [HR.out]; omega) (by omega) (Nat.le_trans hB hgr.size) ?_)
        intro v' w1 hown' hgrow
        have hbl := grownBy_trans (grownBy_alloc hgr _) hgrow
        clear hgrow
        go_wp2_with fail
        go_ret
        exact ⟨v', rfl, by rw [← HE.out, if_pos (by omega)]; exact hown', hbl⟩
      · obtain rfl : c = 0 := by omega
        go_wp2_with fail
        go_ret
        refine ⟨_, rfl, by rw [← HE.out, if_neg (by omega)]; exact hown, hgr⟩

end Go.Proofs.Ytmcejefeloljiaa

/-
  The walks of package naturals: comparing.
-/
namespace Go.Proofs.Ytmcejefeloljiaa
open Go.RowKit Nm

set_option maxHeartbeats 400000 in
theorem compare_any (B B' : Nat) (v u : Value) (n m : Nat) (w : World) (hv : OwnU w B v (digs n)) (hu : OwnU w B' u (digs m)) (hln : (digs n).length ≤ 1048576) (hlm : (digs m).length ≤ 1048576) :
    Calls Try.prog 151 #[v, u] w fun e w' => e = .returned (.int .i64 (cmpN n m)) ∧ ∃ k, w' = w.drewN k := by
  obtain ⟨oa, cap, rfl, hnone, hsome, hcap, hcm⟩ := hv.shape
  obtain ⟨ob, cap', rfl, hnone', hsome', hcap', hcm'⟩ := hu.shape
  unfold maxLen at hcm hcm'
  have HN := Lib.hid hnone; clear hnone
  have HS := Lib.hid hsome; clear hsome
  have HO := Lib.hid hv; clear hv
  have HN' := Lib.hid hnone'; clear hnone'
  have HS' := Lib.hid hsome'; clear hsome'
  have HO' := Lib.hid hu; clear hu
  by_cases hlen : (digs n).length = (digs m).length
  · have hlen1 : (((digs n).length : Int) - ((digs m).length : Int) == 0) = true := by
      rw [beq_iff_eq]; omega
    have hl1 : (digs n).length ≤ (digs m).length := by omega
    have hl2 : (digs m).length ≤ (digs n).length := by omega
    have HL := Lib.hid hlen; clear hlen
    go_enter Try.func151, Try.ntmps151
    go_wp2_with fail
    go_step3
    go_wp2_with fail
    go_step3
    go_wp2_with fail
    go_loopw [5, 6] (fun c i wr => ∃ j : Nat, j ≤ (digs n).length ∧ c = .int .i64 (((digs n).length : Int) - (digs m).length) ∧ i = .int .i64 ((j : Int) - 1) ∧ (digs n).drop j = (digs m).drop j ∧ ∃ nq, wr = w.drewN nq) (fun _ i _ => (intOf i + 1).toNat)
    case atStart => exact ⟨(digs n).length, Nat.le_refl _, rfl, by rw [HL.out], by rw [List.drop_length, HL.out, List.drop_length], 0, rfl⟩
    case round =>
      obtain ⟨j, hj, rfl, rfl, hd, nq, rfl⟩ := hrel
      have HD := Lib.hid hd; clear hd
      by_cases h0 : 0 < j
      · obtain ⟨a, rfl⟩ : ∃ a, oa = some a := by
          cases oa with
          | some a => exact ⟨a, rfl⟩
          | none => have h := HN.out rfl; rw [h] at hj; simp at hj; omega
        obtain ⟨a', rfl⟩ : ∃ a, ob = some a := by
          cases ob with
          | some a => exact ⟨a, rfl⟩
          | none => have h := HN'.out rfl; rw [HL.out, h] at hj; simp at hj; omega
        obtain ⟨ha, hB, hlt⟩ := HS.out a rfl
        obtain ⟨g, o, sb⟩ := a
        cases ha
        obtain ⟨ha, hB', hlt'⟩ := HS'.out a' rfl
        obtain ⟨g', o, sb⟩ := a'
        cases ha
        have hc := OwnN.cell HO.out (j - 1) (by omega)
        generalize hx : (digs n)[j - 1] = x at hc
        have Hx := Lib.hid hx; clear hx
        have hc' := OwnN.cell HO'.out (j - 1) (by omega)
        generalize hy : (digs m)[j - 1] = y at hc'
        have Hy := Lib.hid hy; clear hy
        by_cases hxy : x < y
        · go_wp2_with fail
          go_quiet (fail)
          go_wp2_with fail
          simp only [Exit.noGoto, Exit.then]
          go_wp2_with fail
          go_ret
          refine ⟨ret_int (cmpN_lt ?_).symm, _, rfl⟩
          have h := dv_lt_of_digit (digs n) (digs m) (small_digs n) (j - 1) (by omega) (by omega) (by rw [show j - 1 + 1 = j by omega]; exact HD.out) (by rw [Hx.out, Hy.out]; exact hxy)
          rw [dv_digs, dv_digs] at h; exact h
        · by_cases hyx : y < x
          · go_wp2_with fail
            go_quiet (fail)
            go_wp2_with fail
            go_quiet (fail)
            go_wp2_with fail
            simp only [Exit.noGoto, Exit.then]
            go_wp2_with fail
            go_ret
            refine ⟨ret_int (cmpN_gt ?_).symm, _, rfl⟩
            have h := dv_lt_of_digit (digs m) (digs n) (small_digs m) (j - 1) (by omega) (by omega) (by rw [show j - 1 + 1 = j by omega]; exact HD.out.symm) (by rw [Hx.out, Hy.out]; exact hyx)
            rw [dv_digs, dv_digs] at h; exact h
          · go_wp2_with fail
            go_quiet (fail)
            go_wp2_with fail
            go_quiet (fail)
            go_wp2_with fail
            go_roundw
            case rel =>
              refine ⟨j - 1, by omega, rfl, by rw [show ((j - 1 : Nat) : Int) = (j : Int) - 1 by omega], ?_, _, rfl⟩
              rw [List.drop_eq_getElem_cons (show j - 1 < (digs n).length by omega), List.drop_eq_getElem_cons (show j - 1 < (digs m).length by omega), Hx.out, Hy.out, show j - 1 + 1 = j by omega, HD.out]
              congr 1; omega
            case measure => simp [intOf]; omega
      · obtain rfl : j = 0 := by omega
        go_wp2_with fail
        simp only [Exit.noGoto, Exit.then]
        go_wp2_with fail
        go_ret
        refine ⟨ret_int ?_, _, rfl⟩
        have h := HD.out
        simp only [List.drop_zero] at h
        rw [cmpN_eq (by rw [← dv_digs n, h, dv_digs])]
        omega
  · rcases Nat.lt_or_gt_of_ne hlen with hlt | hgt
    · have hlen1 : (((digs n).length : Int) - ((digs m).length : Int) == 0) = false := by
        rw [beq_eq_false_iff_ne]; omega
      have h1 : (if ((digs n).length : Int) - ((digs m).length : Int) < 1 then ((digs n).length : Int) - ((digs m).length : Int) else 1) ≤ -1 := by
        rw [if_pos (by omega)]; omega
      go_enter Try.func151, Try.ntmps151
      go_wp2_with fail
      go_ret
      exact ⟨ret_int (cmpN_lt (digs_lt_of_length hlt)).symm, 0, rfl⟩
    · have hlen1 : (((digs n).length : Int) - ((digs m).length : Int) == 0) = false := by
        rw [beq_eq_false_iff_ne]; omega
      go_enter Try.func151, Try.ntmps151
      go_wp2_with fail
      go_ret
      exact ⟨ret_int (cmpN_gt (digs_lt_of_length hgt)).symm, 0, rfl⟩

end Go.Proofs.Ytmcejefeloljiaa

/-
  The walks of package naturals: bits, divide.
-/
namespace Go.Proofs.Ytmcejefeloljiaa
open Go.RowKit Nm
attribute [local go_sem] Oper.semAt_some

/-- the two blocks that the iterator reads lie as they lay -/
def keep2 (b c : Nat) (W W' : World) : Prop := W'.heap[b]? = W.heap[b]? ∧ W'.heap[c]? = W.heap[c]?
theorem keep2_t {b c : Nat} {A B C : World} (h : keep2 b c A B) (k : keep2 b c B C) : keep2 b c A C := ⟨k.1.trans h.1, k.2.trans h.2⟩

set_option maxRecDepth 100000 in
set_option maxHeartbeats 1000000 in
theorem bits1_in (n l Bl B V cap ga : Nat) (hl : 1 ≤ n) (hln : (digs V).length ≤ 1048576) (J Jx : List (BitAt (32 * (digs V).length)) → World → Prop) (W : World) (oa : Option Addr)
    (hv : OwnU W B (.slice oa (digs V).length cap) (digs V)) (hga : ∀ g, oa = some ⟨g, 0, none⟩ → g = ga)
    (hY : ∀ pre x W1, J pre W1 → pre.length < 32 * (digs V).length → YieldAt Fence.wide (n - 1) Try.prog l #[.int .i64 ((x.1.1 : Nat) : Int), .int .u64 ((x.1.2 : Nat) : Int)] W1 fun e W' =>
      (e = .returned (.bool true) ∧ J (pre ++ [x]) W' ∧ keep2 Bl ga W1 W') ∨ (e = .returned (.bool false) ∧ Jx (pre ++ [x]) W'))
    (hBl : W.cell? ⟨Bl, 0, none⟩ = some (.slice oa (digs V).length cap)) (h0 : J [] W) :
    CallsIn Fence.wide n Try.prog 164 #[.func (.yield l) #[] #[], .pointer (some ⟨Bl, 0, none⟩)] W fun e W' => (∃ v, e = .returned v) ∧
      ((∃ ys, ys = bitsUpto V (32 * (digs V).length) (32 * (digs V).length) ∧ J ys W') ∨ (∃ pre, (∃ k, pre = bitsUpto V (32 * (digs V).length) k) ∧ Jx pre W')) := by
  have HO := Lib.hid hv; clear hv
  have HG := Lib.hid hga; clear hga
  have HB := Lib.hid hBl
  refine callsIn_of_wp Try.func164 rfl trivial ?_ rfl
  simp only [Try.ntmps164, List.size_toArray, List.length_cons, List.length_nil, Nat.reduceAdd, Nat.reduceSub, Array.replicate_succ, Array.replicate_zero, List.push_toArray, List.append_toArray, List.nil_append, List.cons_append]
  gi_wp2
  clear hBl
  gi_loopw [3] (fun i wr => ∃ j : Nat, j ≤ 32 * (digs V).length ∧ i = .int .i64 (32 * (digs V).length - 1 - (j : Int)) ∧ J (bitsUpto V (32 * (digs V).length) j) wr ∧ keep2 Bl ga W wr)
    (fun i _ => (intOf i + 1).toNat)
  case atStart => exact ⟨0, Nat.zero_le _, by simp, h0, rfl, rfl⟩
  case round =>
    obtain ⟨j, hj, rfl, hJs, hkp⟩ := hrel
    by_cases hlt : j < 32 * (digs V).length
    · obtain ⟨g, rfl, _, _⟩ := OwnN.at HO.out (by omega)
      obtain rfl := HG.out g rfl
      have hcx := OwnN.cell HO.out ((32 * (digs V).length - 1 - j) / 32) (by omega)
      rw [digs_get] at hcx
      have hcx2 : wr.cell? ⟨g, (32 * (digs V).length - 1 - j) / 32, none⟩ = _ := (World.cell?_of_block (a := ⟨g, (32 * (digs V).length - 1 - j) / 32, none⟩) hkp.2).trans hcx
      have hcb : wr.cell? ⟨Bl, 0, none⟩ = _ := (World.cell?_of_block (a := ⟨Bl, 0, none⟩) hkp.1).trans HB.out
      have hbit := bit_of V (32 * (digs V).length - 1 - j)
      generalize hxe : V / B32 ^ ((32 * (digs V).length - 1 - j) / 32) % B32 = x at *
      have hx2 : x < 4294967296 := by rw [← hxe]; exact Nat.mod_lt _ (by unfold B32; omega)
      have HBit := Lib.hid hbit
      clear hcx hbit hxe
      obtain ⟨fn, tmps, assign, body, hy, hR⟩ := hY _ (bitAt V (32 * (digs V).length) j) wr hJs (by rw [bitsUpto_length]; exact hlt)
      dsimp only [bitAt] at hy
      have e1 : ((32 * (digs V).length - 1 - j : Nat) : Int) = 32 * ((digs V).length : Int) - 1 - (j : Int) := by omega
      rw [← HBit.out, e1, ← and_bit x _ (by omega)] at hy
      clear e1
      gi_wp2
      refine hR.mono ?_
      rintro e W3 (⟨rfl, hJ3, hk3⟩ | ⟨rfl, hJx3⟩)
      · gi_wp2
        go_roundw
        case rel => exact ⟨j + 1, by omega, by rw [show ((j + 1 : Nat) : Int) = (j : Int) + 1 by omega]; congr 1; omega, by rw [bitsUpto_succ]; exact hJ3, keep2_t hkp hk3⟩
        case measure => simp [intOf]; omega
      · gi_wp2
        refine bodyPost_ret (results_none rfl _ _ _) rfl ?_
        exact ⟨⟨_, rfl⟩, .inr ⟨_, ⟨j + 1, rfl⟩, by rw [bitsUpto_succ]; exact hJx3⟩⟩
    · obtain rfl : j = 32 * (digs V).length := by omega
      gi_wp2
      go_end0
      exact ⟨⟨_, rfl⟩, .inl ⟨_, rfl, hJs⟩⟩

theorem bits_any (oa : Option Addr) (len cap : Nat) (w : World) :
    Calls Try.prog 149 #[.slice oa len cap] w fun e w' => e = .returned (.func (.func 164) #[] #[.pointer (some ⟨w.heap.size, 0, none⟩)]) ∧ w' = w.alloc (.cells #[.slice oa len cap] 153) := by
  have hmf : ∀ (fn : Fn) (first cap : Array Value) (w : World), (Instr.makeFunc fn first cap).run Try.prog w = .ok (.func fn first cap) w := fun _ _ _ _ => rfl
  go_enter Try.func149, Try.ntmps149
  go_wp2
  go_ret
  exact ⟨rfl, rfl⟩

theorem bits_stops (n Bl B V cap ga : Nat) (hl : 1 ≤ n) (hln : (digs V).length ≤ 1048576) (w : World) (oa : Option Addr)
    (hv : OwnU w B (.slice oa (digs V).length cap) (digs V)) (hga : ∀ g, oa = some ⟨g, 0, none⟩ → g = ga) (hBl : w.cell? ⟨Bl, 0, none⟩ = some (.slice oa (digs V).length cap)) (hlt : Bl < w.heap.size) :
    SeqStopsK Fence.wide n Try.prog 164 #[.pointer (some ⟨Bl, 0, none⟩)] (fun x : BitAt (32 * (digs V).length) => #[.int .i64 ((x.1.1 : Nat) : Int), .int .u64 ((x.1.2 : Nat) : Int)]) (keep2 Bl ga)
      (fun ys => ys = bitsUpto V (32 * (digs V).length) (32 * (digs V).length)) (fun pre => ∃ k, pre = bitsUpto V (32 * (digs V).length) k) (32 * (digs V).length) w := fun l J Jx W hW _ _ hY h0 =>
  bits1_in n l Bl B V cap ga hl hln J Jx W oa (hv.below hW) hga hY ((hW.cell (p := ⟨Bl, 0, none⟩) hlt).trans hBl) h0

end Go.Proofs.Ytmcejefeloljiaa

