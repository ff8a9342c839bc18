/-
  A symbolic executor: whatever order a region draws, it comes to the same.
-/
import Derived.Test.YtieapjdabffjcaaSxR
namespace Go.SX
open Go.RowKit

def tgtT (d : Option Tmp) : Rec → Option Tmp
  | .ok _ _ => d
  | _ => none
/-- what an operation writes of the blocks -/
inductive Wr where
  | none
  | one (i : Nat)
  | app
  | all
def wrOf : Rec → Wr
  | .ok r _ => match r.eff with
    | .none => .none
    | .one i _ => .one i
    | .app _ => .app
    | .all _ => .all
  | _ => .none
def footR : Rec → Foot
  | .ok _ f => f
  | .pan _ m => footPan m
  | .never => .bs []
def hits : Wr → Foot → Bool
  | .none, _ => false
  | .one i, .bs l => l.contains i
  | .one _, .len => false
  | .one _, .all => true
  | .app, .bs _ => false
  | .app, _ => true
  | .all, .bs l => !l.isEmpty
  | .all, _ => true
def meets : Wr → Wr → Bool
  | .none, _ => false
  | _, .none => false
  | .one i, .one j => decide (i = j)
  | .one _, .app => false
  | .app, .one _ => false
  | _, _ => true
/-- two operations that must stand in the text's order -/
def clash (ops : Array Oper) (o p : Oper) (r q : Rec) : Bool :=
  (match tgtT o.dst r with
   | some x => (p.looksAt ops).contains x || decide (tgtT p.dst q = some x)
   | none => false) ||
  (match tgtT p.dst q with
   | some x => (o.looksAt ops).contains x
   | none => false) ||
  hits (wrOf r) (footR q) || hits (wrOf q) (footR r) || meets (wrOf r) (wrOf q)
def isAll : Rec → Bool
  | .ok r _ => match r.eff with | .all _ => true | _ => false
  | _ => false
/-- behind a call that may write any block no block is made -/
def newB : List Oper → List Rec → Bool
  | _ :: l, r :: rs => (!isAll r || l.all fun o => !isNew o.op) && newB l rs
  | _, _ => true
def preOf (pre : List (List Nat)) (i : Nat) : List Nat := (nth pre i).getD []
def aftersOf (o : Oper) : List Nat := (o.after.toList.filter (Region.binds .any)).map (·.on)
/-- the table of what must have come before -/
def nf {γ : Type} (n : Nat) (k : Nat → γ) : γ :=
  match n with
  | 0 => k 0
  | m + 1 => k (m + 1)
theorem nf_eq {γ : Type} (n : Nat) (k : Nat → γ) : nf n k = k n := by cases n <;> rfl
def maskOf (o : Oper) (acc : List Nat) : Nat := (aftersOf o).foldl (fun m e => Nat.lor (Nat.lor m (2 ^ e)) ((nth acc e).getD 0)) 0
def mkMask : List Oper → List Nat → List Nat
  | [], acc => acc
  | o :: l, acc => nf (maskOf o acc) fun x => lf (fun y k => k y) (acc ++ [x]) fun acc' => mkMask l acc'
def bitsOf (n m : Nat) : List Nat := (List.range n).filter fun i => Nat.testBit m i
def mkPre (l : List Oper) : List (List Nat) := (mkMask l []).map (bitsOf l.length)
def preF {γ : Type} (l : List (List Nat)) (k : List (List Nat) → γ) : γ := lf (fun x k => lf nf x k) l k
theorem preF_eq {γ : Type} (l : List (List Nat)) (k : List (List Nat) → γ) : preF l k = k l := lf_eq _ (fun x k => lf_eq _ nf_eq x k) l k
def preB (pre : List (List Nat)) : List Oper → Nat → Bool
  | [], _ => true
  | o :: l, i => (aftersOf o).all (fun e => decide (e < i)) && (preOf pre i).all (fun p => (aftersOf o).contains p || (aftersOf o).any fun q => (preOf pre q).contains p) && preB pre l (i + 1)
def pairB (ops : Array Oper) (pre : List (List Nat)) (o : Oper) (r : Rec) (i : Nat) : List Oper → List Rec → Nat → Bool
  | p :: l, q :: rs, j => (!clash ops o p r q || (preOf pre j).contains i) && pairB ops pre o r i l rs (j + 1)
  | _, _, _ => true
def orderB (ops : Array Oper) (pre : List (List Nat)) : List Oper → List Rec → Nat → Bool
  | o :: l, r :: rs, i => pairB ops pre o r i l rs (i + 1) && orderB ops pre l rs (i + 1)
  | _, _, _ => true

/-- the state when these have come -/
def comb : List Oper → List Rec → (Nat → Bool) → Nat → St → St
  | o :: l, r :: rs, f, i, s => comb l rs f (i + 1) (if f i then s.appR o.dst r else s)
  | _, _, _, _, s => s

section
theorem app_t (s : St) (d : Option Tmp) (r : Rec) : (s.appR d r).t = match r, d with | .ok rc _, some x => s.t.set x rc.v | _, _ => s.t := by
  cases r <;> cases d <;> rfl
theorem app_d (s : St) (d : Option Tmp) (r : Rec) : (s.appR d r).d = s.d := by
  cases r <;> cases d <;> rfl
theorem St.ext3 {s s' : St} (h1 : s.t = s'.t) (h2 : s.m = s'.m) (h3 : s.d = s'.d) : s = s' := by
  cases s; cases s'; simp_all
theorem app_t_get {s s' : St} {d : Option Tmp} {r : Rec} {x : Nat} (h : nth s.t x = nth s'.t x) (hl : s.t.length = s'.t.length) : nth (s.appR d r).t x = nth (s'.appR d r).t x ∧ (s.appR d r).t.length = (s'.appR d r).t.length := by
  rw [app_t, app_t]
  rw [nth_eq, nth_eq] at *
  cases r <;> cases d <;> first | exact ⟨h, hl⟩ | skip
  rename_i rc _ y
  simp only [List.getElem?_set, List.length_set, hl, h]
  exact ⟨trivial, trivial⟩
theorem app_t_other {s : St} {d : Option Tmp} {r : Rec} {x : Nat} (h : tgtT d r ≠ some x) : nth (s.appR d r).t x = nth s.t x ∧ (s.appR d r).t.length = s.t.length := by
  rw [app_t]
  rw [nth_eq, nth_eq]
  cases r <;> cases d <;> first | exact ⟨rfl, rfl⟩ | skip
  rename_i rc _ y
  have : y ≠ x := fun e => h (by simp [tgtT, e])
  simp [List.getElem?_set_ne this]
/-- what two lists of blocks have in common -/
def Foot.rel (f : Foot) (m m' : List Blk) : Prop :=
  match f with
  | .bs l => ∀ b ∈ l, m[b]? = m'[b]?
  | .len => m.length = m'.length
  | .all => m = m'
def FootB (N0 : Nat) : Foot → Prop
  | .bs l => ∀ b ∈ l, b < N0
  | _ => True
theorem app_m' (s : St) (d : Option Tmp) (r : Rec) : (s.appR d r).m = match r with | .ok rc _ => effM rc.eff s.m | _ => s.m := by
  cases r <;> cases d <;> rfl
theorem app_len {s : St} {d : Option Tmp} {r : Rec} {N0 : Nat} (hr : RecB N0 r) (h : N0 ≤ s.m.length) : N0 ≤ (s.appR d r).m.length := by
  rw [app_m']
  cases r with
  | pan v m => exact h
  | never => exact h
  | ok rc f =>
    obtain ⟨v, e⟩ := rc
    cases e with
    | none => exact h
    | one i b => simpa [effM] using h
    | app bs => simp [effM]; omega
    | all m => exact hr.2
/-- a step on both sides -/
theorem rel_both {s s' : St} {d : Option Tmp} {r : Rec} {f : Foot} {N0 : Nat} (hf : FootB N0 f) (hl : N0 ≤ s.m.length) (hl' : N0 ≤ s'.m.length) (h : f.rel s.m s'.m) : f.rel (s.appR d r).m (s'.appR d r).m := by
  rw [app_m', app_m']
  cases r with
  | pan v m => exact h
  | never => exact h
  | ok rc g =>
    obtain ⟨v, e⟩ := rc
    cases e with
    | none => exact h
    | one i b =>
      cases f with
      | bs l =>
        intro x hx
        have h1 := hf x hx
        have h2 := h x hx
        simp only [effM, List.getElem?_set, h2]
        by_cases hi : i = x
        · subst hi; rw [if_pos rfl, if_pos rfl, if_pos (by omega), if_pos (by omega)]
        · rw [if_neg hi, if_neg hi]
      | len => simpa [effM, Foot.rel] using h
      | all => simp only [Foot.rel] at h ⊢; rw [h]
    | app bs =>
      cases f with
      | bs l =>
        intro x hx
        have h1 := hf x hx
        simp only [effM]
        rw [List.getElem?_append_left (by omega), List.getElem?_append_left (by omega)]
        exact h x hx
      | len => simp only [effM, Foot.rel, List.length_append] at h ⊢; omega
      | all => simp only [Foot.rel] at h ⊢; rw [h]
    | all m =>
      cases f with
      | bs l => exact fun _ _ => rfl
      | len => rfl
      | all => rfl
/-- a step on one side, which does not hit -/
theorem rel_one {s : St} {d : Option Tmp} {r : Rec} {f : Foot} {N0 : Nat} (hf : FootB N0 f) (hl : N0 ≤ s.m.length) (hh : hits (wrOf r) f = false) : f.rel (s.appR d r).m s.m := by
  have refl : ∀ m, f.rel m m := fun m => by cases f <;> first | exact fun _ _ => rfl | rfl
  rw [app_m']
  cases r with
  | pan v m => exact refl _
  | never => exact refl _
  | ok rc g =>
    obtain ⟨v, e⟩ := rc
    cases e with
    | none => exact refl _
    | one i b =>
      cases f with
      | bs l =>
        intro x hx
        have : i ≠ x := fun e => by
          subst e
          simp [wrOf, hits] at hh
          exact hh hx
        simp [effM, List.getElem?_set_ne this]
      | len => simp [effM, Foot.rel]
      | all => simp [wrOf, hits] at hh
    | app bs =>
      cases f with
      | bs l =>
        intro x hx
        have h1 := hf x hx
        simp only [effM]
        rw [List.getElem?_append_left (by omega)]
      | len => simp [wrOf, hits] at hh
      | all => simp [wrOf, hits] at hh
    | all m =>
      cases f with
      | bs l =>
        cases l with
        | nil => exact fun x hx => by cases hx
        | cons y l => simp [wrOf, hits] at hh
      | len => simp [wrOf, hits] at hh
      | all => simp [wrOf, hits] at hh
theorem Foot.rel_trans {f : Foot} {a b c : List Blk} (h : f.rel a b) (k : f.rel b c) : f.rel a c := by
  cases f with
  | bs l => exact fun x hx => (h x hx).trans (k x hx)
  | len => exact Eq.trans h k
  | all => exact Eq.trans h k
theorem Foot.rel_symm {f : Foot} {a b : List Blk} (h : f.rel a b) : f.rel b a := by
  cases f with
  | bs l => exact fun x hx => (h x hx).symm
  | len => exact Eq.symm h
  | all => exact Eq.symm h
theorem comb_t {x : Nat} : ∀ (l : List Oper) (rs : List Rec) (f g : Nat → Bool) (i : Nat) (s s' : St), nth s.t x = nth s'.t x → s.t.length = s'.t.length →
    (∀ j o r, l[j]? = some o → rs[j]? = some r → tgtT o.dst r = some x → f (i + j) = g (i + j)) → nth (comb l rs f i s).t x = nth (comb l rs g i s').t x ∧ (comb l rs f i s).t.length = (comb l rs g i s').t.length
  | [], _, _, _, _, _, _, h, hl, _ => ⟨h, hl⟩
  | o :: l, [], _, _, _, _, _, h, hl, _ => ⟨h, hl⟩
  | o :: l, r :: rs, f, g, i, s, s', h, hl, hw => by
    unfold comb
    have step : nth (if f i then s.appR o.dst r else s).t x = nth (if g i then s'.appR o.dst r else s').t x ∧ (if f i then s.appR o.dst r else s).t.length = (if g i then s'.appR o.dst r else s').t.length := by
      by_cases ht : tgtT o.dst r = some x
      · have := hw 0 o r rfl rfl ht
        rw [Nat.add_zero] at this
        rw [this]
        cases g i
        · exact ⟨h, hl⟩
        · exact app_t_get h hl
      · have e1 := app_t_other (s := s) ht
        have e2 := app_t_other (s := s') ht
        cases f i <;> cases g i <;> simp only [Bool.false_eq_true, if_false, if_true, e1, e2, h, hl] <;> exact ⟨trivial, trivial⟩
    exact comb_t l rs f g (i + 1) _ _ step.1 step.2 fun j o' r' h1 h2 h3 => by
      have := hw (j + 1) o' r' (by simpa using h1) (by simpa using h2) h3
      rw [show i + 1 + j = i + (j + 1) by omega]
      exact this
theorem comb_len {N0 : Nat} : ∀ (l : List Oper) (rs : List Rec) (f : Nat → Bool) (i : Nat) (s : St), (∀ r ∈ rs, RecB N0 r) → N0 ≤ s.m.length → N0 ≤ (comb l rs f i s).m.length
  | [], _, _, _, _, _, h => h
  | _ :: _, [], _, _, _, _, h => h
  | o :: l, r :: rs, f, i, s, hB, h => by
    unfold comb
    refine comb_len l rs f (i + 1) _ (fun q hq => hB q (by simp [hq])) ?_
    split
    · exact app_len (hB r (by simp)) h
    · exact h
theorem comb_m {N0 : Nat} {ft : Foot} (hf : FootB N0 ft) : ∀ (l : List Oper) (rs : List Rec) (f g : Nat → Bool) (i : Nat) (s s' : St), (∀ r ∈ rs, RecB N0 r) → N0 ≤ s.m.length → N0 ≤ s'.m.length → ft.rel s.m s'.m →
    (∀ j o r, l[j]? = some o → rs[j]? = some r → hits (wrOf r) ft = true → f (i + j) = g (i + j)) → ft.rel (comb l rs f i s).m (comb l rs g i s').m
  | [], _, _, _, _, _, _, _, _, _, h, _ => h
  | o :: l, [], _, _, _, _, _, _, _, _, h, _ => h
  | o :: l, r :: rs, f, g, i, s, s', hB, hl, hl', h, hw => by
    unfold comb
    have hBr := hB r (by simp)
    have len : ∀ (b : Bool) (s : St), N0 ≤ s.m.length → N0 ≤ (if b then s.appR o.dst r else s).m.length := fun b s hs => by
      cases b
      · exact hs
      · exact app_len hBr hs
    have step : ft.rel (if f i then s.appR o.dst r else s).m (if g i then s'.appR o.dst r else s').m := by
      cases hh : hits (wrOf r) ft with
      | true =>
        have := hw 0 o r rfl rfl hh
        rw [Nat.add_zero] at this
        rw [this]
        cases g i
        · exact h
        · exact rel_both hf hl hl' h
      | false =>
        have e1 := rel_one (d := o.dst) hf hl hh
        have e2 := rel_one (d := o.dst) hf hl' hh
        cases f i <;> cases g i <;> simp only [Bool.false_eq_true, if_false, if_true]
        · exact h
        · exact Foot.rel_trans h (Foot.rel_symm e2)
        · exact Foot.rel_trans e1 h
        · exact Foot.rel_trans e1 (Foot.rel_trans h (Foot.rel_symm e2))
    exact comb_m hf l rs f g (i + 1) _ _ (fun q hq => hB q (by simp [hq])) (len _ s hl) (len _ s' hl') step fun j o' r' h1 h2 h3 => by
      have := hw (j + 1) o' r' (by simpa using h1) (by simpa using h2) h3
      rw [show i + 1 + j = i + (j + 1) by omega]
      exact this
theorem app_comm {N0 : Nat} {s : St} {d e : Option Tmp} {r q : Rec} (hr : RecB N0 r) (hq : RecB N0 q) (hl : N0 ≤ s.m.length) (h1 : ∀ x, tgtT d r = some x → tgtT e q ≠ some x) (h2 : meets (wrOf r) (wrOf q) = false) : (s.appR d r).appR e q = (s.appR e q).appR d r := by
  apply St.ext3
  · rw [app_t, app_t, app_t, app_t]
    cases r <;> cases d <;> cases q <;> cases e <;> first | rfl | skip
    rename_i rc _ x qc _ y
    have : x ≠ y := fun he => h1 x rfl (by simp [tgtT, he])
    exact List.set_comm _ _ this
  · rw [app_m', app_m', app_m', app_m']
    cases r with
    | pan v m => rfl
    | never => rfl
    | ok rc f =>
      cases q with
      | pan v m => rfl
      | never => rfl
      | ok qc g =>
        obtain ⟨v, e⟩ := rc
        obtain ⟨u, k⟩ := qc
        cases e with
        | none => rfl
        | one i b =>
          cases k with
          | none => rfl
          | one j c =>
            have : i ≠ j := fun he => by simp [wrOf, meets, he] at h2
            exact List.set_comm _ _ this
          | app bs =>
            have hi : i < N0 := hr.2
            simp only [effM]
            rw [List.set_append_left _ _ (by omega)]
          | all m => simp [wrOf, meets] at h2
        | app bs =>
          cases k with
          | none => rfl
          | one j c =>
            have hj : j < N0 := hq.2
            simp only [effM]
            rw [List.set_append_left _ _ (by omega)]
          | app cs => simp [wrOf, meets] at h2
          | all m => simp [wrOf, meets] at h2
        | all m =>
          cases k with
          | none => rfl
          | one j c => simp [wrOf, meets] at h2
          | app cs => simp [wrOf, meets] at h2
          | all m => simp [wrOf, meets] at h2
  · rw [app_d, app_d, app_d, app_d]
theorem comb_app {N0 : Nat} {d : Option Tmp} {r : Rec} (hr : RecB N0 r) : ∀ (l : List Oper) (rs : List Rec) (f : Nat → Bool) (i : Nat) (s : St), (∀ q ∈ rs, RecB N0 q) → N0 ≤ s.m.length →
    (∀ j o q, l[j]? = some o → rs[j]? = some q → f (i + j) = true → (∀ x, tgtT d r = some x → tgtT o.dst q ≠ some x) ∧ meets (wrOf r) (wrOf q) = false) →
    comb l rs f i (s.appR d r) = (comb l rs f i s).appR d r
  | [], _, _, _, _, _, _, _ => rfl
  | _ :: _, [], _, _, _, _, _, _ => rfl
  | o :: l, q :: rs, f, i, s, hB, hl, hd => by
    unfold comb
    have hBq := hB q (by simp)
    have hd' : ∀ j o q, l[j]? = some o → rs[j]? = some q → f (i + 1 + j) = true → (∀ x, tgtT d r = some x → tgtT o.dst q ≠ some x) ∧ meets (wrOf r) (wrOf q) = false := fun j o' q' h1 h2 h3 => by
      have := hd (j + 1) o' q' (by simpa using h1) (by simpa using h2) (by rw [show i + (j + 1) = i + 1 + j by omega]; exact h3)
      exact this
    cases hf : f i with
    | false => simp only [Bool.false_eq_true, if_false]; exact comb_app hr l rs f (i + 1) s (fun x hx => hB x (by simp [hx])) hl hd'
    | true =>
      simp only [if_true]
      obtain ⟨h1, h2⟩ := hd 0 o q rfl rfl (by rw [Nat.add_zero]; exact hf)
      rw [app_comm hr hBq hl h1 h2]
      exact comb_app hr l rs f (i + 1) _ (fun x hx => hB x (by simp [hx])) (app_len hBq hl) hd'
/-- one more has come -/
theorem comb_add {N0 : Nat} {k : Nat} {o : Oper} {r : Rec} : ∀ (l : List Oper) (rs : List Rec) (f g : Nat → Bool) (i : Nat) (s : St), (∀ q ∈ rs, RecB N0 q) → N0 ≤ s.m.length → l[k]? = some o → rs[k]? = some r → f (i + k) = false → g (i + k) = true → (∀ j, j ≠ i + k → g j = f j) →
    (∀ j o' q, k < j → l[j]? = some o' → rs[j]? = some q → f (i + j) = true → (∀ x, tgtT o.dst r = some x → tgtT o'.dst q ≠ some x) ∧ meets (wrOf r) (wrOf q) = false) →
    comb l rs g i s = (comb l rs f i s).appR o.dst r := by
  induction k with
  | zero =>
    intro l rs f g i s hB hlen hl hr hf hg hfg hd
    cases l with
    | nil => cases hl
    | cons o1 l =>
      cases rs with
      | nil => cases hr
      | cons r1 rs =>
        simp only [List.getElem?_cons_zero, Option.some.injEq] at hl hr
        subst hl; subst hr
        rw [Nat.add_zero] at *
        unfold comb
        rw [hf, hg]
        simp only [Bool.false_eq_true, if_false, if_true]
        have e1 : comb l rs g (i + 1) (s.appR o1.dst r1) = comb l rs f (i + 1) (s.appR o1.dst r1) := by
          clear hd hf hg
          have gen : ∀ (l : List Oper) (rs : List Rec) (m : Nat) (s : St), i < m → comb l rs g m s = comb l rs f m s := by
            intro l
            induction l with
            | nil => intros; rfl
            | cons o l ih =>
              intro rs m s hm
              cases rs with
              | nil => rfl
              | cons r rs =>
                unfold comb
                rw [hfg m (by omega)]
                exact ih rs (m + 1) _ (by omega)
          exact gen l rs (i + 1) _ (by omega)
        rw [e1]
        exact comb_app (hB r1 (by simp)) l rs f (i + 1) s (fun x hx => hB x (by simp [hx])) hlen fun j o' q h1 h2 h3 => hd (j + 1) o' q (by omega) (by simpa using h1) (by simpa using h2) (by rw [show i + (j + 1) = i + 1 + j by omega]; exact h3)
  | succ k ih =>
    intro l rs f g i s hB hlen hl hr hf hg hfg hd
    cases l with
    | nil => cases hl
    | cons o1 l =>
      cases rs with
      | nil => cases hr
      | cons r1 rs =>
        unfold comb
        rw [hfg i (by omega)]
        refine ih l rs f g (i + 1) _ (fun x hx => hB x (by simp [hx])) ?_ (by simpa using hl) (by simpa using hr) ?_ ?_ (fun j hj => hfg j (by omega)) fun j o' q h0 h1 h2 h3 => hd (j + 1) o' q (by omega) (by simpa using h1) (by simpa using h2) (by rw [show i + (j + 1) = i + 1 + j by omega]; exact h3)
        · split
          · exact app_len (hB r1 (by simp)) hlen
          · exact hlen
        · rw [show i + 1 + k = i + (k + 1) by omega]; exact hf
        · rw [show i + 1 + k = i + (k + 1) by omega]; exact hg
end
end Go.SX
