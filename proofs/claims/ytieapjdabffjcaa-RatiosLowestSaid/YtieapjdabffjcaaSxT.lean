/-
  A symbolic executor: a region that draws its order is as the walk of the text's order shows.
-/
import Derived.Test.YtieapjdabffjcaaSxS
namespace Go.SX
open Go.RowKit

section
variable {E : Env} {P : Program} {rd : Rd} {ops : Array Oper} {Q : Exit → Act → World → Prop} {pre : List (List Nat)} {N0 : Nat}

def slotN (l : List Oper) (n k : Nat) : Nat := n + ((l.take k).filter fun o => isNew o.op).length
theorem comb_none : ∀ (l : List Oper) (rs : List Rec) (f : Nat → Bool) (i : Nat) (s : St), (∀ j, i ≤ j → f j = false) → comb l rs f i s = s
  | [], _, _, _, _, _ => rfl
  | _ :: _, [], _, _, _, _ => rfl
  | o :: l, r :: rs, f, i, s, h => by
    unfold comb
    rw [h i (Nat.le_refl _)]
    exact comb_none l rs f (i + 1) s fun j hj => h j (by omega)
theorem bad_keep {i : Nat} {x : Bad} {r : Rec} {b : Option Bad} (h : badStep i (some x) r = some b) : b = some x := by
  cases r <;> simp [badStep] at h <;> exact h.symm
theorem lexP_bad : ∀ (l : List Oper) (recs : List Rec) (i n : Nat) (x : Bad) (bad' : Option Bad) (s s' : St), LexP rd P ops N0 pre l recs i n (some x) bad' s s' → bad' = some x
  | [], _, _, _, _, _, _, _, h => h.2.1
  | _ :: l, _, _, _, x, bad', _, _, ⟨r, recs', b1, _, _, _, _, hb, h⟩ => by
    have := bad_keep hb
    subst this
    exact lexP_bad l _ _ _ x bad' _ _ h
theorem lexP_get : ∀ (l : List Oper) (recs : List Rec) (i n : Nat) (bad bad' : Option Bad) (s s' : St), LexP rd P ops N0 pre l recs i n bad bad' s s' →
    recs.length = l.length ∧ s' = comb l recs (fun _ => true) i s ∧ (∀ x, bad' = some x → bad = some x ∨ ∃ k, x.1 = i + k ∧ recs[k]? = some (.pan x.2.1 x.2.2)) ∧ (∀ r ∈ recs, RecB N0 r) ∧
    ∀ k o, l[k]? = some o → ∃ r, recs[k]? = some r ∧ RecOk rd P ops N0 (i + k) o (slotN l n k) (comb l recs (fun j => decide (j < i + k)) i s) r ∧
      (r = .never → ∃ x, bad' = some x ∧ x.1 ∈ preOf pre (i + k)) ∧ (∀ v m, r = .pan v m → bad' = some (i + k, v, m))
  | [], recs, i, n, bad, bad', s, s', ⟨h1, h2, h3⟩ => by
    subst h1; subst h2; subst h3
    exact ⟨rfl, rfl, fun x hx => .inl hx, fun r hr => (by cases hr), fun k o h => by simp at h⟩
  | o :: l, _, i, n, bad, bad', s, s', ⟨r, recs, b1, rfl, hnv, hrec, hrb, hb, h⟩ => by
    obtain ⟨h1, h2, h3, hBB, h4⟩ := lexP_get l recs _ _ _ _ _ _ h
    refine ⟨by simp [h1], ?_, ?_, fun q hq => by rcases List.mem_cons.1 hq with rfl | hq; exact hrb; exact hBB q hq, ?_⟩
    · rw [h2]
      exact (by rw [comb, if_pos rfl] : comb (o :: l) (r :: recs) (fun _ => true) i s = comb l recs (fun _ => true) (i + 1) (s.appR o.dst r)).symm
    · intro x hx
      rcases h3 x hx with h5 | ⟨k, h5, h6⟩
      · cases r with
        | ok rc f => simp only [badStep, Option.some.injEq] at hb; subst hb; exact .inl h5
        | never => simp only [badStep, Option.some.injEq] at hb; subst hb; exact .inl h5
        | pan v m =>
          cases bad with
          | none =>
            simp only [badStep, Option.some.injEq] at hb
            subst hb
            cases h5
            exact .inr ⟨0, rfl, rfl⟩
          | some y => simp [badStep] at hb
      · exact .inr ⟨k + 1, by omega, by simpa using h6⟩
    · intro k o' ho'
      cases k with
      | zero =>
        simp only [List.getElem?_cons_zero, Option.some.injEq] at ho'
        subst ho'
        refine ⟨r, rfl, ?_, ?_, ?_⟩
        · rw [Nat.add_zero, comb_none _ _ _ _ _ fun j hj => decide_eq_false (by omega)]
          simpa [slotN] using hrec
        · intro hr
          obtain ⟨j, v, h5, h6⟩ := hnv hr
          subst h5
          have := bad_keep hb
          subst this
          exact ⟨_, lexP_bad _ _ _ _ _ _ _ _ h, h6⟩
        · intro v m hv
          subst hv
          cases bad with
          | none =>
            simp only [badStep, Option.some.injEq] at hb
            subst hb
            exact lexP_bad _ _ _ _ _ _ _ _ h
          | some y => simp [badStep] at hb
      | succ k =>
        obtain ⟨r', h5, h6, h7, h8⟩ := h4 k o' (by simpa using ho')
        have e1 : i + 1 + k = i + (k + 1) := by omega
        refine ⟨r', by simpa using h5, ?_, by rw [← e1]; exact h7, by rw [← e1]; exact h8⟩
        rw [← e1]
        have e2 : comb (o :: l) (r :: recs) (fun j => decide (j < i + 1 + k)) i s = comb l recs (fun j => decide (j < i + 1 + k)) (i + 1) (s.appR o.dst r) := by
          rw [comb, if_pos (decide_eq_true (by omega))]
        have e3 : slotN (o :: l) n (k + 1) = slotN l (if isNew o.op then n + 1 else n) k := by
          unfold slotN
          rw [List.take_succ_cons, List.filter_cons]
          cases isNew o.op <;> simp
          omega
        rw [e2, e3]
        exact h6
theorem preB_get : ∀ (l : List Oper) (i : Nat), preB pre l i = true → ∀ k o, l[k]? = some o → (∀ e ∈ aftersOf o, e < i + k) ∧ ∀ p ∈ preOf pre (i + k), p ∈ aftersOf o ∨ ∃ q ∈ aftersOf o, p ∈ preOf pre q
  | [], _, _, k, o, h => by simp at h
  | o1 :: l, i, hB, k, o, h => by
    unfold preB at hB
    simp only [Bool.and_eq_true] at hB
    obtain ⟨⟨h1, h2⟩, h3⟩ := hB
    cases k with
    | zero =>
      simp only [List.getElem?_cons_zero, Option.some.injEq] at h
      subst h
      refine ⟨fun e he => ?_, fun p hp => ?_⟩
      · simpa using List.all_eq_true.1 h1 e he
      · have := List.all_eq_true.1 h2 p hp
        simp only [Bool.or_eq_true, List.contains_iff_mem, List.any_eq_true] at this
        exact this
    | succ k =>
      have := preB_get l (i + 1) h3 k o (by simpa using h)
      rw [show i + 1 + k = i + (k + 1) by omega] at this
      exact this
theorem pairB_get {o : Oper} {r : Rec} {i : Nat} : ∀ (l : List Oper) (rs : List Rec) (j : Nat), pairB ops pre o r i l rs j = true → ∀ k p q, l[k]? = some p → rs[k]? = some q → clash ops o p r q = true → i ∈ preOf pre (j + k)
  | [], _, _, _, k, p, q, h, _, _ => by simp at h
  | _ :: _, [], _, _, k, p, q, _, h, _ => by simp at h
  | p1 :: l, q1 :: rs, j, hB, k, p, q, hp, hq, hc => by
    unfold pairB at hB
    simp only [Bool.and_eq_true] at hB
    obtain ⟨h1, h2⟩ := hB
    cases k with
    | zero =>
      simp only [List.getElem?_cons_zero, Option.some.injEq] at hp hq
      subst hp; subst hq
      rw [hc] at h1
      simpa using h1
    | succ k =>
      have := pairB_get l rs (j + 1) h2 k p q (by simpa using hp) (by simpa using hq) hc
      rw [show j + 1 + k = j + (k + 1) by omega] at this
      exact this
theorem orderB_get : ∀ (l : List Oper) (rs : List Rec) (i : Nat), orderB ops pre l rs i = true → ∀ k d o r p q, l[k]? = some o → rs[k]? = some r → l[k + 1 + d]? = some p → rs[k + 1 + d]? = some q → clash ops o p r q = true → i + k ∈ preOf pre (i + (k + 1 + d))
  | [], _, _, _, k, d, o, r, p, q, h, _, _, _, _ => by simp at h
  | _ :: _, [], _, _, k, d, o, r, p, q, _, h, _, _, _ => by simp at h
  | o1 :: l, r1 :: rs, i, hB, k, d, o, r, p, q, ho, hr, hp, hq, hc => by
    unfold orderB at hB
    simp only [Bool.and_eq_true] at hB
    obtain ⟨h1, h2⟩ := hB
    cases k with
    | zero =>
      simp only [List.getElem?_cons_zero, Option.some.injEq] at ho hr
      subst ho; subst hr
      have := pairB_get l rs (i + 1) h1 d p q (by simpa [Nat.add_comm] using hp) (by simpa [Nat.add_comm] using hq) hc
      rw [show i + 1 + d = i + (0 + 1 + d) by omega] at this
      exact this
    | succ k =>
      have e : k + 1 + 1 + d = (k + 1 + d) + 1 := by omega
      rw [e] at hp hq
      have := orderB_get l rs (i + 1) h2 k d o r p q (by simpa using ho) (by simpa using hr) (by simpa using hp) (by simpa using hq) hc
      rw [show i + 1 + k = i + (k + 1) by omega, show i + 1 + (k + 1 + d) = i + (k + 1 + 1 + d) by omega] at this
      exact this
theorem slotN_lt {l : List Oper} {n i j : Nat} {o : Oper} (hij : i < j) (ho : l[i]? = some o) (hn : isNew o.op = true) : slotN l n i < slotN l n j := by
  unfold slotN
  have h1 : (l.take (i + 1)).filter (fun o => isNew o.op) = (l.take i).filter (fun o => isNew o.op) ++ [o] := by
    rw [List.take_add_one, ho, List.filter_append]
    simp [hn]
  have h2 : ((l.take (i + 1)).filter (fun o => isNew o.op)).length ≤ ((l.take j).filter (fun o => isNew o.op)).length := by
    apply List.Sublist.length_le
    apply List.Sublist.filter
    have : l.take (i + 1) = (l.take j).take (i + 1) := by rw [List.take_take, Nat.min_eq_left (by omega)]
    rw [this]
    exact List.take_sublist _ _
  rw [h1] at h2
  simp at h2
  omega
theorem cnt_set : ∀ (l : List Bool) (i : Nat), l[i]? = some false → (l.set i true).count false + 1 = l.count false
  | [], i, h => by simp at h
  | b :: l, 0, h => by simp at h; subst h; simp
  | b :: l, i + 1, h => by
    have := cnt_set l i (by simpa using h)
    simp only [List.set_cons_succ, List.count_cons]
    omega

structure Inv (E : Env) (ops : Array Oper) (recs : List Rec) (n0 : Nat) (s0 : St) (ρ : Nat → Option Nat) (fuel : Nat) (listed : Array Bool) (a : Act) (w : World) : Prop where
  size : listed.size = ops.size
  cnt : listed.toList.count false = fuel
  closed : ∀ i o, ops[i]? = some o → listed.getD i false = true → ∀ e ∈ aftersOf o, listed.getD e false = true
  good : ∀ i r, recs[i]? = some r → listed.getD i false = true → ∃ rc ft, r = .ok rc ft
  rep : Rep E ρ (comb ops.toList recs (fun i => listed.getD i false) 0 s0) a w
  slot : ∀ k o r, ops[k]? = some o → recs[k]? = some r → isNew o.op = true → wrOf r ≠ .none → listed.getD k false = false → ρ (slotN ops.toList n0 k) = none

theorem afters_mem {o : Oper} {e : Nat} : e ∈ aftersOf o ↔ ∃ x ∈ o.after, Region.binds .any x = true ∧ x.on = e := by
  unfold aftersOf
  simp only [List.mem_map, List.mem_filter, Array.mem_toList_iff]
  constructor
  · rintro ⟨x, ⟨h1, h2⟩, h3⟩; exact ⟨x, h1, h2, h3⟩
  · rintro ⟨x, h1, h2, h3⟩; exact ⟨x, ⟨h1, h2⟩, h3⟩
theorem ready_iff {i : Nat} {listed : Array Bool} : i ∈ Region.ready .any ops listed ↔ listed.getD i true = false ∧ ∃ o, ops[i]? = some o ∧ ∀ e ∈ aftersOf o, listed.getD e false = true := by
  rw [mem_ready]
  constructor
  · rintro ⟨h0, o, ho, h⟩
    refine ⟨h0, o, ho, fun e he => ?_⟩
    obtain ⟨x, h1, h2, h3⟩ := afters_mem.1 he
    rw [← h3]
    exact h x h1 h2
  · rintro ⟨h0, o, ho, h⟩
    exact ⟨h0, o, ho, fun e he hb => h _ (afters_mem.2 ⟨e, he, hb, rfl⟩)⟩

theorem pre_in (hB : preB pre ops.toList 0 = true) {f : Nat → Bool} (hcl : ∀ i o, ops[i]? = some o → f i = true → ∀ e ∈ aftersOf o, f e = true) :
    ∀ i o, ops[i]? = some o → (∀ e ∈ aftersOf o, f e = true) → ∀ p ∈ preOf pre i, f p = true := by
  intro i
  induction i using Nat.strongRecOn with
  | _ i ih =>
    intro o ho hall p hp
    obtain ⟨h1, h2⟩ := preB_get _ _ hB i o (by simpa using ho)
    rw [Nat.zero_add] at h1 h2
    rcases h2 p hp with h3 | ⟨q, h3, h4⟩
    · exact hall p h3
    · have hq := h1 q h3
      have hlt : i < ops.size := (Array.getElem?_eq_some_iff.1 ho).1
      obtain ⟨oq, hoq⟩ : ∃ oq, ops[q]? = some oq := ⟨ops[q], Array.getElem?_eq_getElem (by omega)⟩
      exact ih q hq oq hoq (hcl q oq hoq (hall q h3)) p h4

theorem clash_tt {o p : Oper} {r q : Rec} {x : Nat} (h1 : tgtT o.dst r = some x) (h2 : x ∈ p.looksAt ops ∨ tgtT p.dst q = some x) : clash ops o p r q = true := by
  unfold clash
  rw [h1]
  rcases h2 with h2 | h2
  · simp [h2]
  · simp [h2]
theorem clash_lt {o p : Oper} {r q : Rec} {x : Nat} (h1 : tgtT p.dst q = some x) (h2 : x ∈ o.looksAt ops) : clash ops o p r q = true := by
  unfold clash
  rw [h1]
  simp [h2]
theorem clash_wf {o p : Oper} {r q : Rec} (h : hits (wrOf r) (footR q) = true) : clash ops o p r q = true := by
  unfold clash
  rw [h]
  simp
theorem clash_fw {o p : Oper} {r q : Rec} (h : hits (wrOf q) (footR r) = true) : clash ops o p r q = true := by
  unfold clash
  rw [h]
  simp
theorem clash_ww {o p : Oper} {r q : Rec} (h : meets (wrOf r) (wrOf q) = true) : clash ops o p r q = true := by
  unfold clash
  rw [h]
  simp
theorem newB_get : ∀ (l : List Oper) (rs : List Rec), newB l rs = true → ∀ k d r p, rs[k]? = some r → isAll r = true → k < l.length → l[k + 1 + d]? = some p → isNew p.op = false
  | [], _, _, k, d, r, p, _, _, h, _ => by simp at h
  | _ :: _, [], _, k, d, r, p, h, _, _, _ => by simp at h
  | o :: l, r1 :: rs, hB, k, d, r, p, hr, ha, hk, hp => by
    unfold newB at hB
    simp only [Bool.and_eq_true] at hB
    obtain ⟨h1, h2⟩ := hB
    cases k with
    | zero =>
      simp only [List.getElem?_cons_zero, Option.some.injEq] at hr
      subst hr
      rw [ha] at h1
      have h3 : l[d]? = some p := by simpa [Nat.add_comm] using hp
      simp only [Bool.not_true, Bool.false_or] at h1
      have := List.all_eq_true.1 h1 p (List.mem_of_getElem? h3)
      simpa using this
    | succ k =>
      have e : k + 1 + 1 + d = (k + 1 + d) + 1 := by omega
      rw [e] at hp
      exact newB_get l rs h2 k d r p (by simpa using hr) ha (by simpa using hk) (by simpa using hp)

theorem any_sound (hE : E.rd = rd) {recs : List Rec} {n0 : Nat} {bad : Option Bad} {s0 s1 : St} (hlex : LexP rd P ops N0 pre ops.toList recs 0 n0 none bad s0 s1) (hO : orderB ops pre ops.toList recs 0 = true) (hNB : newB ops.toList recs = true) (hN0 : N0 ≤ s0.m.length) (hsl : slotN ops.toList n0 ops.size ≤ N0) (hB : preB pre ops.toList 0 = true)
    (hfin : bad = none → ∀ ρ a w, Rep E ρ s1 a w → Q .normal a w)
    (hpan : ∀ x, bad = some x → ∀ f ρ a w, Rep E ρ (match x.2.2 with | none => comb ops.toList recs f 0 s0 | some m' => { comb ops.toList recs f 0 s0 with m := m' }) a w → Q (.panic [{ v := x.2.1, recovered := false }]) a w) :
    ∀ (fuel : Nat) (listed : Array Bool) (ρ : Nat → Option Nat) (a : Act) (w : World), Inv E ops recs n0 s0 ρ fuel listed a w → wpAny P .any ops Q fuel listed a w := by
  obtain ⟨hlen, hs1, hbad, hBB, hget⟩ := lexP_get _ _ _ _ _ _ _ _ hlex
  have done : ∀ fuel listed ρ a w, Inv E ops recs n0 s0 ρ fuel listed a w → Region.ready .any ops listed = [] → Q .normal a w := by
    intro fuel listed ρ a w inv hr
    have all : ∀ i, i < ops.size → listed.getD i false = true := by
      intro i
      induction i using Nat.strongRecOn with
      | _ i ih =>
        intro hi
        cases hl : listed.getD i false with
        | true => rfl
        | false =>
          exfalso
          have hmem : i ∈ Region.ready .any ops listed := by
            rw [ready_iff]
            refine ⟨?_, ops[i], Array.getElem?_eq_getElem hi, fun e he => ?_⟩
            · have : i < listed.size := by rw [inv.size]; exact hi
              simp [this] at hl ⊢
              exact hl
            · have h1 := (preB_get _ _ hB i ops[i] (by simp [hi])).1 e he
              rw [Nat.zero_add] at h1
              exact ih e h1 (by omega)
          rw [hr] at hmem
          cases hmem
    have hnb : bad = none := by
      cases hb : bad with
      | none => rfl
      | some x =>
        exfalso
        rcases hbad x hb with h | ⟨k, h1, h2⟩
        · cases h
        · have hk : k < recs.length := (List.getElem?_eq_some_iff.1 h2).1
          obtain ⟨rc, ft, h3⟩ := inv.good k _ h2 (all k (by rw [hlen] at hk; simpa using hk))
          cases h3
    refine hfin hnb ρ a w ?_
    have hrep := inv.rep
    rw [hs1]
    have : comb ops.toList recs (fun i => listed.getD i false) 0 s0 = comb ops.toList recs (fun _ => true) 0 s0 := by
      have hcong : ∀ (l : List Oper) (rs : List Rec) (i : Nat) (s : St), i + l.length ≤ ops.size → comb l rs (fun i => listed.getD i false) i s = comb l rs (fun _ => true) i s := by
        intro l
        induction l with
        | nil => intros; rfl
        | cons o l ih =>
          intro rs i s hle
          cases rs with
          | nil => rfl
          | cons r rs =>
            simp only [List.length_cons] at hle
            unfold comb
            show comb l rs _ (i + 1) (if listed.getD i false = true then s.appR o.dst r else s) = comb l rs _ (i + 1) (if true = true then s.appR o.dst r else s)
            rw [all i (by omega)]
            exact ih rs (i + 1) _ (by omega)
      exact hcong _ _ 0 s0 (by simp)
    rw [← this]
    exact hrep
  intro fuel
  induction fuel with
  | zero =>
    intro listed ρ a w inv
    have hr : Region.ready .any ops listed = [] := by
      rw [List.eq_nil_iff_forall_not_mem]
      intro i hi
      have h0 := (ready_iff.1 hi).1
      have hc := inv.cnt
      rw [List.count_eq_zero] at hc
      apply hc
      rcases Nat.lt_or_ge i listed.size with hlt | hge
      · simp [hlt] at h0
        rw [← h0]
        simp
      · simp [Array.getElem?_eq_none hge] at h0
    exact ⟨hr, done 0 listed ρ a w inv hr⟩
  | succ fuel ih =>
    intro listed ρ a w inv
    refine ⟨done _ listed ρ a w inv, fun i hi => ?_⟩
    obtain ⟨hun, o, ho, haft⟩ := ready_iff.1 hi
    have hio : i < ops.size := (Array.getElem?_eq_some_iff.1 ho).1
    have hil : i < listed.size := by rw [inv.size]; exact hio
    have hunf : listed.getD i false = false := by simp [hil] at hun ⊢; exact hun
    obtain ⟨r, hr1, hrec, hnv, hpv⟩ := hget i o (by simpa using ho)
    rw [Nat.zero_add] at hrec hnv hpv
    have hpre := pre_in hB inv.closed i o ho haft
    have hpreL : ∀ j p, ops[j]? = some p → listed.getD j false = true → i ∉ preOf pre j := fun j p hp hl hmem => by
      have := pre_in hB inv.closed j p hp (inv.closed j p hp hl) i hmem
      rw [hunf] at this
      cases this
    have before : ∀ j p q, ops[j]? = some p → recs[j]? = some q → j < i → clash ops p o q r = true → listed.getD j false = true := fun j p q hp hq hji hc => by
      obtain ⟨d, rfl⟩ : ∃ d, i = j + 1 + d := ⟨i - j - 1, by omega⟩
      have := orderB_get _ _ _ hO j d p q o r (by simpa using hp) hq (by simpa using ho) hr1 hc
      rw [Nat.zero_add, Nat.zero_add] at this
      exact hpre j this
    have behind : ∀ j p q, ops[j]? = some p → recs[j]? = some q → i < j → clash ops o p r q = true → listed.getD j false = false := fun j p q hp hq hij hc => by
      obtain ⟨d, rfl⟩ : ∃ d, j = i + 1 + d := ⟨j - i - 1, by omega⟩
      have h1 := orderB_get _ _ _ hO i d o r p q (by simpa using ho) hr1 (by simpa using hp) hq hc
      rw [Nat.zero_add, Nat.zero_add] at h1
      cases hl : listed.getD (i + 1 + d) false with
      | false => rfl
      | true => exact absurd h1 (hpreL _ p hp hl)
    have side : ∀ j p q, ops[j]? = some p → recs[j]? = some q → (j < i → clash ops p o q r = true) → (i < j → clash ops o p r q = true) → listed.getD j false = decide (j < i) := fun j p q hp hq h1 h2 => by
      rcases Nat.lt_trichotomy j i with h | h | h
      · rw [before j p q hp hq h (h1 h), decide_eq_true h]
      · subst h; rw [hunf, decide_eq_false (by omega)]
      · rw [behind j p q hp hq h (h2 h), decide_eq_false (by omega)]
    have agree : ∀ foot, FootB N0 foot → (∀ W, hits W foot = true → hits W (footR r) = true) → Agree ops o foot (comb ops.toList recs (fun j => decide (j < i)) 0 s0) (comb ops.toList recs (fun i => listed.getD i false) 0 s0) := fun foot hfb hfoot => by
      refine ⟨fun x hx => ?_, ?_⟩
      · refine (comb_t _ _ _ _ 0 s0 s0 rfl rfl fun j p q hp hq ht => ?_).1
        rw [Nat.zero_add]
        refine side j p q (by simpa using hp) hq (fun _ => ?_) (fun _ => ?_)
        · exact clash_tt ht (.inl hx)
        · exact clash_lt ht hx
      · have hrel : foot.rel (comb ops.toList recs (fun i => listed.getD i false) 0 s0).m (comb ops.toList recs (fun j => decide (j < i)) 0 s0).m := by
          refine comb_m hfb _ _ _ _ 0 s0 s0 hBB hN0 hN0 ?_ fun j p q hp hq ht => ?_
          · cases foot <;> first | exact fun _ _ => rfl | rfl
          · rw [Nat.zero_add]
            exact side j p q (by simpa using hp) hq (fun _ => clash_wf (hfoot _ ht)) (fun _ => clash_fw (hfoot _ ht))
        cases foot <;> exact hrel
    have hBr := hBB r (List.mem_of_getElem? hr1)
    cases r with
    | never =>
      exfalso
      obtain ⟨x, h1, h2⟩ := hnv rfl
      rcases hbad x h1 with h | ⟨k, h3, h4⟩
      · cases h
      · rw [Nat.zero_add] at h3
        have h5 := hpre _ h2
        rw [h3] at h5
        obtain ⟨rc, ft, h6⟩ := inv.good k _ h4 h5
        cases h6
    | pan v m =>
      refine hrec E Q hE _ (agree (footPan m) ?_ (fun _ h => h)) ρ a w _ inv.rep fun ρ' a' w' hr' => ?_
      · cases m
        · exact fun b hb => by cases hb
        · trivial
      · have := hpan _ (hpv v m rfl) (fun i => listed.getD i false) ρ' a' w'
        cases m with
        | none => exact this hr'
        | some m' => exact this hr'
    | ok rc ft =>
      refine hrec E Q hE _ (agree ft hBr.1 (fun _ h => h)) (comb_len _ _ _ _ _ hBB hN0) ρ a w _ inv.rep (fun hn he => inv.slot i o _ ho hr1 hn (fun h => he (by unfold wrOf at h; simp only at h; split at h <;> first | assumption | cases h)) hunf) fun ρ' a' w' hr' hslot => ih _ ρ' a' w' ?_
      have hgetset : ∀ j, (listed.setIfInBounds i true).getD j false = if j = i then true else listed.getD j false := fun j => by
        by_cases hj : j = i
        · subst hj; simp [hil]
        · rw [if_neg hj, getD_set_ne false (Ne.symm hj)]
      refine ⟨by simp [inv.size], ?_, ?_, ?_, ?_, ?_⟩
      · have h1 : listed.toList[i]? = some false := by
          simp [hil] at hunf
          simp [hil, hunf]
        have := cnt_set _ _ h1
        have hc := inv.cnt
        rw [Array.toList_setIfInBounds]
        omega
      · intro j p hp hl e he
        rw [hgetset] at hl ⊢
        split
        · rfl
        · split at hl
          · rename_i hj
            subst hj
            rw [ho] at hp
            cases hp
            exact haft e he
          · exact inv.closed j p hp hl e he
      · intro j q hq hl
        rw [hgetset] at hl
        split at hl
        · rename_i hj
          subst hj
          rw [hr1] at hq
          cases hq
          exact ⟨_, _, rfl⟩
        · exact inv.good j q hq hl
      · have e : comb ops.toList recs (fun j => (listed.setIfInBounds i true).getD j false) 0 s0 = (comb ops.toList recs (fun i => listed.getD i false) 0 s0).appR o.dst (.ok rc ft) := by
          refine comb_add (N0 := N0) (k := i) _ _ _ _ 0 s0 hBB hN0 (by simpa using ho) hr1 (by rw [Nat.zero_add]; exact hunf) (by rw [Nat.zero_add, hgetset, if_pos rfl]) (fun j hj => by rw [Nat.zero_add] at hj; rw [hgetset, if_neg hj]) fun j p q hij hp hq hl => ?_
          rw [Nat.zero_add] at hl
          refine ⟨fun x hx hx2 => ?_, ?_⟩
          · rw [behind j p q (by simpa using hp) hq hij (clash_tt hx (.inr hx2))] at hl
            cases hl
          · cases hm : meets (wrOf (.ok rc ft)) (wrOf q) with
            | false => rfl
            | true =>
              rw [behind j p q (by simpa using hp) hq hij (clash_ww hm)] at hl
              cases hl
        rw [e]
        exact hr'
      · intro k p q hp hq hn hwr hl
        rw [hgetset] at hl
        split at hl
        · cases hl
        · rename_i hki
          have hkz : k < ops.size := (Array.getElem?_eq_some_iff.1 hp).1
          refine hslot (fun m' hall => ?_) _ ?_ (inv.slot k p q hp hq hn hwr hl) fun hno => ?_
          · rcases Nat.lt_or_ge k i with h | h
            · have hm : meets (wrOf q) (wrOf (.ok rc ft)) = true := by
                have e : wrOf (.ok rc ft) = .all := by unfold wrOf; simp only; rw [hall]
                rw [e]
                cases hq2 : wrOf q <;> first | rfl | exact absurd hq2 hwr
              have := before k p q hp hq h (clash_ww hm)
              rw [hl] at this
              cases this
            · obtain ⟨d, rfl⟩ : ∃ d, k = i + 1 + d := ⟨k - i - 1, by omega⟩
              have hisall : isAll (.ok rc ft) = true := by
                show (match rc.eff with | .all _ => true | _ => false) = true
                rw [hall]
              have := newB_get _ _ hNB i d _ p hr1 hisall (by simpa using hio) (by simpa using hp)
              rw [hn] at this
              cases this
          · have h1 : slotN ops.toList n0 k < slotN ops.toList n0 ops.size := slotN_lt hkz (by simpa using hp) hn
            omega
          · rcases Nat.lt_trichotomy k i with h | h | h
            · exact Nat.ne_of_lt (slotN_lt h (by simpa using hp) hn)
            · exact absurd h hki
            · exact Nat.ne_of_gt (slotN_lt h (by simpa using ho) hno)
end
end Go.SX
