/-
  A symbolic executor: one operation is as the model does it.
-/
import Derived.Test.YtieapjdabffjcaaSxB
namespace Go.SX
open Go.RowKit

def Does (E : Env) (ρ : Nat → Option Nat) (r : Result Next) (v : SV) (m' : List Blk) : Prop :=
  ∃ nx w' ρ' u, r = .ok nx w' ∧ (nx = .value u ∨ nx = .skip ∧ u = undef) ∧ v.R ρ' u ∧ Mem E ρ' m' w' ∧ Le ρ ρ'

section
variable {E : Env} {P : Program} {ρ : Nat → Option Nat} {m m' : List Blk} {w : World} {a : Act} {o : Oper} {ev : Operand → SV} {v : SV}

/-- an operation that leaves the world as it is -/
def Same (ρ : Nat → Option Nat) (w : World) (r : Result Next) (v : SV) (m m' : List Blk) : Prop := ∃ u, r = .ok (.value u) w ∧ v.R ρ u ∧ m' = m
theorem Same.mk {r : Result Next} {u : Value} (hr : r = .ok (.value u) w) (hv : v.R ρ u) : Same ρ w r v m m := ⟨u, hr, hv, rfl⟩
theorem Same.does {r : Result Next} (hM : Mem E ρ m w) (h : Same ρ w r v m m') : Does E ρ r v m' := by
  obtain ⟨u, h1, h2, rfl⟩ := h
  exact ⟨_, w, ρ, u, h1, .inl rfl, h2, hM, Le.refl _⟩

theorem pure_sound (he : ∀ x, (ev x).R ρ (a.eval x)) (h : (sxPure P o ev m).res = some (v, m')) : Same ρ w ((execOp a.eval o).run P w) v m m' := by
  unfold sxPure at h
  split at h
  · rename_i hc
    rw [Bool.and_eq_true] at hc
    obtain ⟨hp, hs⟩ := hc
    split at h
    · rename_i u hu
      cases h
      refine Same.mk ?_ rfl
      rw [execOp_congr (ρ := a.eval) (ρ' := fun x => (ev x).plain.getD undef) o ?_ ?_]
      · exact pureV_run _ _ hu w
      · intro cs b hb
        rw [hb] at hs
        exact absurd hs (by simp [isSel])
      · intro x hx
        have h1 := List.all_eq_true.1 hp x (by simpa using hx)
        obtain ⟨v, hv⟩ := Option.isSome_iff_exists.1 h1
        rw [hv]
        exact SV.plain_R _ _ _ hv (he x)
    · cases h
  · cases h

theorem run_type {t : TypeId} {d : TypeDesc} (h : P.underlying t = some d) : (underlying t).run P w = .ok d w := by
  simp [underlying, program, Sem.run, h]
theorem run_agg {t : TypeId} {b : Bool} (h : tyAgg P t = some b) : (isAgg t).run P w = .ok b w := by
  unfold tyAgg at h
  cases hu : P.underlying t with
  | none => rw [hu] at h; cases h
  | some d =>
    rw [hu] at h
    simp only [Option.map_some, Option.some.injEq] at h
    simp only [isAgg, Sem.run_bind, run_type hu, Result.andThen_ok]
    rw [← h]
    cases d <;> rfl
theorem run_size {t : TypeId} {n : Nat} (h : tySize P t = some n) : (sizeOf t).run P w = .ok n w := by
  unfold tySize at h
  simp only [Option.map_eq_some_iff] at h
  obtain ⟨i, h1, h2⟩ := h
  simp [sizeOf, typeInfo, program, Sem.run, h1, h2]
theorem run_zero {t : TypeId} {v : Value} (h : tyZero P t = some v) : (zeroValue t).run P w = .ok v w := by
  unfold tyZero at h
  cases hi : P.info? t with
  | none => rw [hi] at h; cases h
  | some i =>
    rw [hi] at h
    simp only [Option.bind_some] at h
    simp [zeroValue, typeInfo, program, Sem.run, hi, h]

theorem addr_add (r off i : Nat) : Addr.add ⟨r, off, none⟩ i = ⟨r, off + i, none⟩ := by
  unfold Addr.add
  split
  · rename_i h; rw [h, Nat.add_zero]
  · rfl
theorem run_load_at {r off : Nat} {us : List Value} {t : TypeId} {z : Nat × Nat} {u : Value} (hb : w.heap[r]? = some (.cells us.toArray t z)) (hu : us[off]? = some u) :
    (load ⟨r, off, none⟩).run P w = .ok u w := by
  simp [load, Sem.run, World.cell?, hb, hu]
theorem run_loadFrom {r off : Nat} {us : List Value} {t : TypeId} {z : Nat × Nat} (hb : w.heap[r]? = some (.cells us.toArray t z)) :
    ∀ (n i : Nat) (acc : List Value), (cut us (off + i) n).length = n → (loadCellsFrom ⟨r, off, none⟩ i n acc.toArray).run P w = .ok (acc ++ cut us (off + i) n).toArray w
  | 0, i, acc, _ => by simp [loadCellsFrom, cut]
  | n + 1, i, acc, hl => by
    have hlt : off + i < us.length := by
      unfold cut at hl
      simp at hl
      omega
    have hcut : cut us (off + i) (n + 1) = us[off + i] :: cut us (off + (i + 1)) n := by
      unfold cut
      rw [List.drop_eq_getElem_cons hlt, List.take_succ_cons, Nat.add_assoc]
    rw [hcut, List.length_cons] at hl
    have h1 : (load (Addr.add ⟨r, off, none⟩ i)).run P w = .ok us[off + i] w := by
      rw [addr_add]
      exact run_load_at hb (List.getElem?_eq_getElem hlt)
    have h2 := run_loadFrom (off := off) hb n (i + 1) (acc ++ [us[off + i]]) (by omega)
    simp only [loadCellsFrom, Sem.run_bind, h1, Result.andThen_ok]
    rw [hcut]
    simpa using h2

theorem run_readCells {rd : Rd} (hrd : rd.Ok w fun _ => False) (a : Addr) : ∀ (ds : List TypeDesc) (j : Nat) (l : List SV) (acc : List Value), (readCells rd a j ds).res = some l →
    ∃ us, (loadCellsFrom a j ds.length acc.toArray).run P w = .ok (acc ++ us).toArray w ∧ SV.RL ρ l us
  | [], j, l, acc, h => by
    cases h
    exact ⟨[], by simp [loadCellsFrom], rfl⟩
  | d :: ds, j, l, acc, h => by
    have step : ∀ (v : Value), w.cell? (a.add j) = some v → ((readCells rd a (j + 1) ds).bind fun l => .ok (.val v :: l)).res = some l → ∃ us, (loadCellsFrom a j (ds.length + 1) acc.toArray).run P w = .ok (acc ++ us).toArray w ∧ SV.RL ρ l us := fun v hv h => by
      obtain ⟨l', h1, h2⟩ := R3.bind_some _ _ _ h
      cases h2
      obtain ⟨us, h3, h4⟩ := run_readCells hrd a ds (j + 1) l' (acc ++ [v]) h1
      refine ⟨v :: us, ?_, ⟨v, us, rfl, rfl, h4⟩⟩
      have h5 : (load (a.add j)).run P w = .ok v w := by simp [load, Sem.run, hv]
      simp only [loadCellsFrom, Sem.run_bind, h5, Result.andThen_ok]
      simpa using h3
    unfold readCells at h
    simp only at h
    split at h
    · obtain ⟨h1, h⟩ := R3.need_some h
      exact step _ (hrd.s _ h1).1 h
    · obtain ⟨h1, h⟩ := R3.need_some h
      exact step _ (hrd.i _ _ h1).1 h
    · obtain ⟨h1, h⟩ := R3.need_some h
      exact step _ (hrd.b _ h1).1 h
    · obtain ⟨h1, h⟩ := R3.need_some h
      exact step _ (hrd.l _ h1).1 h
    · cases h
theorem load_sound {t : TypeId} {x : SV} {u : Value} (hM : View E ρ m w) (hx : x.R ρ u) (h : (sxLoad P E.rd t x m).res = some (v, m')) :
    ∃ u', (Instr.loadAt t u).run P w = .ok u' w ∧ v.R ρ u' ∧ m' = m := by
  unfold sxLoad at h
  split at h
  · rename_i i off
    obtain ⟨r, hr, rfl⟩ := hx
    cases hm : nth m i with
    | none => rw [hm] at h; cases h
    | some b =>
      rw [hm] at h
      rw [nth_eq] at hm
      cases b with
      | dead => cases h
      | mp l => cases h
      | cells l ty wr =>
        obtain ⟨_, hb, us, rfl, hl⟩ := hM.get hm hr
        cases hg : tyAgg P t with
        | none => rw [hg] at h; cases h
        | some g =>
          rw [hg] at h
          cases g with
          | true =>
            cases hs : tySize P t with
            | none => rw [hs] at h; cases h
            | some n =>
              rw [hs] at h
              simp only at h
              split at h
              · rename_i hlen
                cases h
                have hc : SV.RL ρ (cut l off n) (cut us off n) := (hl.drop off).take n
                refine ⟨_, ?_, ⟨_, rfl, hc⟩, rfl⟩
                have h1 := run_loadFrom (P := P) (off := off) hb n 0 [] (by rw [Nat.add_zero, hc.length, hlen])
                simp only [Instr.loadAt, Instr.sureAddr, loadVar, Sem.run_bind, run_agg hg, Result.andThen_ok, if_true, run_size hs, loadCells, Sem.run_pure] at h1 ⊢
                rw [h1]
                simp
              · cases h
          | false =>
            simp only at h
            rw [nth_eq] at h
            cases hv : l[off]? with
            | none => rw [hv] at h; cases h
            | some v' =>
              rw [hv] at h
              cases h
              obtain ⟨u', h1, h2⟩ := hl.get hv
              refine ⟨u', ?_, h2, rfl⟩
              simp only [Instr.loadAt, Instr.sureAddr, loadVar, Sem.run_bind, run_agg hg, Result.andThen_ok, Sem.run_pure, Bool.false_eq_true, if_false]
              exact run_load_at hb h1
  · rename_i ad
    obtain rfl : u = .pointer (some ad) := hx
    split at h
    · rename_i hg
      have key : ∀ c, w.cell? ad = some c → (Instr.loadAt t (.pointer (some ad))).run P w = .ok c w := fun c h1 => by
        simp [Instr.loadAt, Instr.sureAddr, loadVar, Sem.run_bind, run_agg hg, load, Sem.run, h1]
      have hrd := hM.kept.read
      unfold readExt at h
      split at h
      · obtain ⟨h1, h⟩ := R3.need_some h
        cases h
        exact ⟨_, key _ (hrd.s _ h1).1, rfl, rfl⟩
      · obtain ⟨h1, h⟩ := R3.need_some h
        cases h
        exact ⟨_, key _ (hrd.i _ _ h1).1, rfl, rfl⟩
      · obtain ⟨h1, h⟩ := R3.need_some h
        cases h
        exact ⟨_, key _ (hrd.b _ h1).1, rfl, rfl⟩
      · obtain ⟨h1, h⟩ := R3.need_some h
        cases h
        exact ⟨_, key _ (hrd.l _ h1).1, rfl, rfl⟩
      · cases h
    · rename_i hg
      have hrd := hM.kept.read
      unfold readAgg at h
      split at h
      · rename_i ds n _ hs
        split at h
        · rename_i hlen
          obtain ⟨l, h1, h2⟩ := R3.bind_some _ _ _ h
          cases h2
          have h3 := run_readCells (P := P) (ρ := ρ) hrd ad ds 0 l [] h1
          obtain ⟨us, h4, h5⟩ := h3
          refine ⟨.agg us.toArray, ?_, ⟨us, rfl, h5⟩, rfl⟩
          rw [hlen] at h4
          simp only [Instr.loadAt, Instr.sureAddr, loadVar, Sem.run_bind, run_agg hg, Result.andThen_ok, if_true, run_size hs, loadCells, Sem.run_pure]
          rw [h4]
          simp
        · cases h
      · cases h
    · cases h
  · cases h

theorem RL.lay {ρ : Nat → Option Nat} {l cs : List SV} {us vs : List Value} (h : SV.RL ρ l us) (hc : SV.RL ρ cs vs) (off : Nat) : SV.RL ρ (lay l off cs) (lay us off vs) := by
  unfold SX.lay
  rw [hc.length]
  exact ((h.take off).append hc).append (h.drop _)
theorem atom_R {x : SV} {u : Value} (hx : x.R ρ u) {cs : List SV} (h : x.cells = some cs) : SV.RL ρ cs u.cells.toList := by
  cases x with
  | agg l =>
    obtain ⟨us, rfl, h2⟩ := hx
    simp only [SV.cells, Option.some.injEq] at h
    subst h
    simpa [Value.cells] using h2
  | any => cases h
  | val v =>
    obtain rfl : u = v := hx
    cases u with
    | agg cs' =>
      simp only [SV.cells, Option.some.injEq] at h
      subst h
      simpa [Value.cells] using SV.RL.vals cs'.toList
    | _ =>
      simp only [SV.cells, Option.some.injEq] at h
      subst h
      exact ⟨_, _, rfl, rfl, rfl⟩
  | ptr i off =>
    simp only [SV.cells, Option.some.injEq] at h
    subst h
    obtain ⟨b, h1, rfl⟩ := hx
    exact ⟨_, _, rfl, ⟨b, h1, rfl⟩, rfl⟩
  | sl i off n c =>
    simp only [SV.cells, Option.some.injEq] at h
    subst h
    obtain ⟨b, h1, rfl⟩ := hx
    exact ⟨_, _, rfl, ⟨b, h1, rfl⟩, rfl⟩
  | mp i =>
    simp only [SV.cells, Option.some.injEq] at h
    subst h
    obtain ⟨b, h1, rfl⟩ := hx
    exact ⟨_, _, rfl, ⟨b, h1, rfl⟩, rfl⟩
  | tup l =>
    simp only [SV.cells, Option.some.injEq] at h
    subst h
    obtain ⟨us, rfl, h2⟩ := hx
    exact ⟨_, _, rfl, ⟨us, rfl, h2⟩, rfl⟩
  | clo fn l k =>
    simp only [SV.cells, Option.some.injEq] at h
    subst h
    obtain ⟨us, vs, rfl, h2, h3⟩ := hx
    exact ⟨_, _, rfl, ⟨us, vs, rfl, h2, h3⟩, rfl⟩

theorem atoms_R {ρ : Nat → Option Nat} : ∀ {cs : List SV} {us : List Value}, cs.all SV.atom = true → SV.RL ρ cs us → us.all atomic = true
  | [], _, _, h => by rw [SV.RL] at h; subst h; rfl
  | x :: cs, _, ha, ⟨u, us', h1, h2, h3⟩ => by
    rw [List.all_cons, Bool.and_eq_true] at ha
    subst h1
    rw [List.all_cons, Bool.and_eq_true]
    refine ⟨?_, atoms_R ha.2 h3⟩
    have hx := ha.1
    cases x with
    | val v => obtain rfl : u = v := h2; exact hx
    | any => cases hx
    | ptr i off => obtain ⟨_, _, rfl⟩ := h2; rfl
    | sl i off n c => obtain ⟨_, _, rfl⟩ := h2; rfl
    | mp i => obtain ⟨_, _, rfl⟩ := h2; rfl
    | agg l => cases hx
    | tup l => cases hx
    | clo fn l k => obtain ⟨_, _, rfl, _, _⟩ := h2; rfl
theorem lay_set (us : List Value) (k : Nat) (v : Value) (vs : List Value) (hk : k < us.length) : lay us k (v :: vs) = lay (us.set k v) (k + 1) vs := by
  unfold lay
  apply List.ext_getElem?
  intro j
  simp only [List.getElem?_append, List.length_append, List.length_take, List.length_set, List.length_cons, List.getElem?_take, List.getElem?_set, List.getElem?_drop]
  rcases Nat.lt_trichotomy j k with h | h | h
  · simp [h, Nat.min_eq_left (Nat.le_of_lt hk), Nat.ne_of_gt h, show j < k + 1 by omega, show j < min (k + 1) us.length by omega, show j < min (k + 1) us.length + vs.length by omega]
    omega
  · subst h
    simp [hk, Nat.min_eq_left (Nat.le_of_lt hk), Nat.min_eq_left (Nat.succ_le_of_lt hk)]
    omega
  · have e1 : min k us.length = k := by omega
    have e2 : min (k + 1) us.length = k + 1 := by omega
    rw [e1, e2]
    by_cases h2 : j < k + (vs.length + 1)
    · obtain ⟨d, rfl⟩ : ∃ d, j = k + 1 + d := ⟨j - k - 1, by omega⟩
      simp [show k + 1 + d < k + (vs.length + 1) by omega, show ¬ k + 1 + d < k by omega, show k + 1 + d < k + 1 + vs.length by omega, show k + 1 + d - k = d + 1 by omega, show ¬ (k + 1 + d < k + 1) by omega]
    · simp [h2, show ¬ j < k + 1 + vs.length by omega]
      rw [if_neg (by omega)]
      congr 1
      omega

theorem run_storeFrom {r off : Nat} {t : TypeId} : ∀ (vs : List Value) (i : Nat) (w : World) (us : List Value), w.heap[r]? = some (.cells us.toArray t (0, 0)) → off + i + vs.length ≤ us.length → vs.all atomic = true →
    (storeCells ⟨r, off, none⟩ vs i).run P w = .ok () { w with heap := w.heap.setIfInBounds r (.cells (lay us (off + i) vs).toArray t (0, 0)) }
  | [], i, w, us, hb, _, _ => by
    have : w.heap.setIfInBounds r (.cells (lay us (off + i) []).toArray t (0, 0)) = w.heap := by
      apply Array.ext_getElem?
      intro j
      rw [Array.getElem?_setIfInBounds]
      split
      · rename_i hj
        subst hj
        split
        · rw [hb]; simp [lay]
        · rename_i h; rw [Array.getElem?_eq_none (by omega)] at hb; cases hb
      · rfl
    rw [this]
    rfl
  | v :: vs, i, w, us, hb, hl, ha => by
    rw [List.all_cons, Bool.and_eq_true] at ha
    simp only [List.length_cons] at hl
    have hlt : off + i < us.length := by omega
    have hr : r < w.heap.size := by
      rcases Nat.lt_or_ge r w.heap.size with h | h
      · exact h
      · rw [Array.getElem?_eq_none h] at hb; cases hb
    have h1 : (store (Addr.add ⟨r, off, none⟩ i) v).run P w = .ok () { w with heap := w.heap.setIfInBounds r (.cells (us.set (off + i) v).toArray t (0, 0)) } := by
      rw [addr_add]
      have hset : w.setCell ⟨r, off + i, none⟩ v = { w with heap := w.heap.setIfInBounds r (.cells (us.set (off + i) v).toArray t (0, 0)) } := by
        unfold World.setCell
        congr 1
        apply Array.ext_getElem?
        intro j
        rw [Array.getElem?_modify, Array.getElem?_setIfInBounds]
        split
        · rename_i hj
          subst hj
          rw [hb]
          simp
        · rfl
      have hcell : w.cell? ⟨r, off + i, none⟩ = some us[off + i] := by simp [World.cell?, hb, hlt]
      have hfz : w.frozen? ⟨r, off + i, none⟩ = false := by simp [World.frozen?, hb]
      obtain ⟨ha1, _⟩ := ha
      cases v with
      | agg c => cases ha1
      | tuple c => cases ha1
      | _ => simp only [store, Sem.run, hcell, hfz, Bool.false_eq_true, if_false, hset]
    have h2 := run_storeFrom (r := r) (off := off) (t := t) vs (i + 1) { w with heap := w.heap.setIfInBounds r (.cells (us.set (off + i) v).toArray t (0, 0)) } (us.set (off + i) v) (by simp [hr]) (by simp; omega) ha.2
    simp only [storeCells, Sem.run_bind, h1, Result.andThen_ok, h2, Array.setIfInBounds_setIfInBounds]
    rw [lay_set us (off + i) v vs hlt, show off + (i + 1) = off + i + 1 by omega]


theorem stBlk_sound {t : TypeId} {i r off : Nat} {y : SV} {u2 : Value} {b b' : Blk} (hM : Mem E ρ m w) (hr : ρ i = some r) (hm : m[i]? = some b) (hy : y.R ρ u2) (h : stBlk P t off y b = some b') :
    ∃ w', (Instr.storeAt t (.pointer (some ⟨r, off, none⟩)) u2).run P w = .ok () w' ∧ Mem E ρ (m.set i b') w' := by
  unfold stBlk at h
  cases b with
  | dead => cases h
  | mp l => cases h
  | cells l ty wr =>
    obtain ⟨_, hb, us, rfl, hl⟩ := hM.get hm hr
    cases wr with
    | false => cases h
    | true =>
      cases hcs : y.cells with
      | none => rw [hcs] at h; cases h
      | some cs =>
        cases hs : tySize P t with
        | none => rw [hcs, hs] at h; cases h
        | some n =>
          rw [hcs, hs] at h
          simp only at h
          split at h
          · rename_i hc
            simp only [Bool.and_eq_true, decide_eq_true_eq] at hc
            obtain ⟨⟨hlen, hoff⟩, hat⟩ := hc
            cases h
            have hcr := atom_R hy hcs
            have hval : u2.cells.toList.all atomic = true := atoms_R hat hcr
            have h1 := run_storeFrom (P := P) (r := r) (off := off) u2.cells.toList 0 w us hb (by rw [hcr.length, hl.length]; simpa using hoff) hval
            have hsz : u2.cells.size = n := by
              have := hcr.length
              simp at this
              omega
            refine ⟨_, ?_, hM.write (b1 := .cells (lay l off cs) ty true) hm rfl hr ⟨_, rfl, RL.lay hl hcr off⟩ rfl⟩
            simp only [Instr.storeAt, Instr.sureAddr, storeVar, Sem.run_bind, Sem.run_pure, Result.andThen_ok, run_size hs, hsz, ne_eq, not_true_eq_false, if_false]
            exact h1
          · cases h
theorem store_sound {t : TypeId} {x y : SV} {u u2 : Value} (hM : Mem E ρ m w) (hx : x.R ρ u) (hy : y.R ρ u2) (h : (sxStore P t x y m).res = some (v, m')) :
    ∃ w', (Instr.storeAt t u u2).run P w = .ok () w' ∧ v = .val undef ∧ Mem E ρ m' w' := by
  unfold sxStore at h
  split at h
  · rename_i i off
    obtain ⟨r, hr, rfl⟩ := hx
    rw [nth_eq] at h
    split at h
    · rename_i b hm
      split at h
      · rename_i b' hb
        cases h
        obtain ⟨w', h1, h2⟩ := stBlk_sound (P := P) hM hr hm hy hb
        exact ⟨w', h1, rfl, h2⟩
      · cases h
    · cases h
  · cases h

end
end Go.SX
