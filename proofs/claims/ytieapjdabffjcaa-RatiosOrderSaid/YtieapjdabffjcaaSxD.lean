/-
  A symbolic executor: every operation is as the model does it.
-/
import Derived.Test.YtieapjdabffjcaaSxC
import Derived.Laws.Strings
import Derived.Laws.BytesString
namespace Go.SX
set_option linter.unusedSimpArgs false
set_option linter.unusedVariables false
open Go.RowKit

section
variable {E : Env} {P : Program} {ρ : Nat → Option Nat} {m m' : List Blk} {w : World} {a : Act} {o : Oper} {ev : Operand → SV} {v : SV}

theorem RL.map_ops (he : ∀ x, (ev x).R ρ (a.eval x)) : ∀ l : List Operand, SV.RL ρ (l.map ev) (l.map a.eval)
  | [] => rfl
  | x :: l => ⟨_, _, rfl, he x, RL.map_ops he l⟩

theorem partV_run {t : TypeId} {cs : Array Value} {off : Nat} {v : Value} (h : partV P t cs off = some v) : (part t cs off).run P w = .ok v w := by
  unfold partV at h
  cases hg : tyAgg P t with
  | none => rw [hg] at h; cases h
  | some g =>
    rw [hg] at h
    cases g with
    | true =>
      simp only [Option.map_eq_some_iff] at h
      obtain ⟨n, hs, rfl⟩ := h
      simp [part, run_agg hg, run_size hs]
    | false =>
      simp only at h
      simp [part, run_agg hg, h]
theorem eqV_run : ∀ (n d : Nat) (t : TypeId) (x y : Value) (b : Bool), n ≤ d → eqV P n t x y = some b → (Op.equalIn d t x y).run P w = .ok b w
  | 0, _, _, _, _, _, _, h => by cases h
  | n + 1, 0, _, _, _, _, hd, _ => by omega
  | n + 1, d + 1, t, x, y, b, hd, h => by
    unfold eqV at h
    split at h
    · rename_i hu
      split at h
      · cases h; simp [Op.equalIn, run_type hu]
      · cases h
    · rename_i kd hu
      split at h
      · split at h
        · rename_i hk
          subst hk
          cases h
          simp [Op.equalIn, run_type hu]
        · cases h
      · cases h
    · rename_i hu
      split at h
      · cases h; simp [Op.equalIn, run_type hu]
      · cases h
    · rename_i fields hu
      split at h
      · rename_i xs ys
        split at h
        · cases h
        · rename_i hs
          have hs' : P.stoodInHeld t = false := by simpa using hs
          simp only [Op.equalIn, Sem.run_bind, run_type hu, Result.andThen_ok, program, Sem.run, hs', Bool.false_eq_true, if_false]
          rw [← Array.forIn_toList]
          generalize fields.toList = fs at h ⊢
          have key : ∀ (fs : List Field) (b : Bool), fs.foldr (fun f r => if f.name = "_" then none else match partV P f.type xs f.offset, partV P f.type ys f.offset, r with
              | some u, some v, some c => (eqV P n f.type u v).map (· && c)
              | _, _, _ => none) (some true) = some b →
              (forIn fs ((none : Option Bool), ()) fun f _ =>
                if f.name ≠ "_" then do
                  let u ← part f.type xs f.offset
                  let v ← part f.type ys f.offset
                  let r ← Op.equalIn d f.type u v
                  if (!r) = true then pure (ForInStep.done (some false, ())) else pure (ForInStep.yield (none, ()))
                else pure (ForInStep.yield (none, ())) : Sem (Option Bool × Unit)).run P w = .ok (if b then none else some false, ()) w := by
            intro fs
            induction fs with
            | nil => intro b h; cases h; simp
            | cons f fs ih =>
              intro b h
              simp only [List.foldr_cons] at h
              split at h
              · cases h
              · rename_i hf
                split at h
                · rename_i u v c hu' hv' hc
                  simp only [Option.map_eq_some_iff] at h
                  obtain ⟨e, he, rfl⟩ := h
                  have h1 := eqV_run n d f.type u v e (by omega) he
                  simp only [List.forIn_cons, ne_eq, hf, not_false_eq_true, if_true, Sem.run_bind, partV_run hu', partV_run hv', h1, Result.andThen_ok]
                  cases e
                  · simp
                  · have h9 := ih c hc
                    simp only [ne_eq] at h9
                    simp only [Bool.not_true, Bool.false_eq_true, if_false, Sem.run_pure, Result.andThen_ok, Bool.true_and]
                    exact h9
                · cases h
          have := key fs b h
          simp only [ne_eq] at this ⊢
          rw [this]
          cases b <;> simp
      · cases h
    · cases h
theorem check_plain {kt : TypeId} {kind : TypeDesc} (hk : P.underlying kt = some kind) (hp : keyKind kind = true) (e : Bool) (n : Nat) (v : Value) : (Instr.checkKey e (n + 1) kt v).run P w = .ok () w := by
  cases kind <;> simp only [keyKind] at hp <;> first | (cases hp; done) | simp [Instr.checkKey, run_type hk]
theorem find_sound (kind : TypeDesc) (k : Value) : ∀ (l : List (Value × SV)) (es : List MapEntry) (i : Nat) (r : Option SV), KL ρ l es → (sxFind kind k l).res = some r →
    ∃ r', Instr.findNow kind k es i = some r' ∧ (match r with | none => r' = none | some v => ∃ j u, r' = some (j, u) ∧ v.R ρ u)
  | [], es, i, r, hl, h => by
    rw [KL] at hl
    subst hl
    cases h
    exact ⟨none, rfl, rfl⟩
  | kv :: l, es, i, r, ⟨e, es', h1, h2, h3, h4⟩, h => by
    subst h1
    unfold sxFind at h
    split at h
    · rename_i b hb
      unfold Instr.findNow
      rw [h2, hb]
      cases b with
      | true =>
        have h' : some (some kv.2) = some r := h
        cases h'
        exact ⟨_, rfl, i, e.val, rfl, h3⟩
      | false => exact find_sound kind k l es' (i + 1) r h4 h
    · cases h
theorem byteL_R : ∀ {l : List SV} {ns : List Int} {us : List Value}, byteL l = some ns → SV.RL ρ l us → us = ns.map (Value.int .u8) ∧ ns.length = l.length := by
  intro l
  induction l with
  | nil =>
    intro ns us h hr
    cases h
    cases us with
    | nil => exact ⟨rfl, rfl⟩
    | cons _ _ => exact absurd hr (by simp [SV.RL])
  | cons x l ih =>
    intro ns us h hr
    unfold byteL at h
    split at h
    · rename_i e; cases e
    · rename_i n l' e
      cases e
      rw [Option.map_eq_some_iff] at h
      obtain ⟨ns', h1, rfl⟩ := h
      obtain ⟨u, us', rfl, h2, h3⟩ := hr
      obtain ⟨h4, h5⟩ := ih h1 h3
      have h2' : u = .int .u8 n := h2
      exact ⟨by rw [h2', h4]; rfl, by simp [h5]⟩
    · cases h
theorem strOf_foldl (ns : List Int) : ∀ s : ByteArray, ns.foldl (fun r n => r.push (UInt8.ofNat n.toNat)) s = ⟨s.data ++ (ns.map fun n => UInt8.ofNat n.toNat).toArray⟩ := by
  induction ns with
  | nil => intro s; simp
  | cons n ns ih =>
    intro s
    rw [List.foldl_cons, ih]
    apply congrArg ByteArray.mk
    rw [← Array.toList_inj]
    simp [ByteArray.push]
theorem conv_sound {src dst : TypeId} {i off n c : Nat} {u : Value} (hM : View E ρ m w) (hx : (SV.sl i off n c).R ρ u) (h : (sxConv P src dst i off n m).res = some (v, m')) :
    ∃ u', (convert src dst u).run P w = .ok u' w ∧ v.R ρ u' ∧ m' = m := by
  unfold sxConv at h
  split at h
  · rename_i e hs hd
    split at h
    · rename_i l ty g he hm
      split at h
      · rename_i ns hb
        split at h
        · rename_i hlen
          cases h
          obtain ⟨b, hr, rfl⟩ := hx
          rw [nth_eq] at hm
          obtain ⟨o', ho, hO⟩ := hM.get hm hr
          obtain ⟨us, rfl, hl⟩ := hO
          have hc : SV.RL ρ (cut l off n) (cut us off n) := (hl.drop off).take n
          obtain ⟨h1, h2⟩ := byteL_R hb hc
          have h3 := run_loadFrom (P := P) (off := off) ho n 0 [] (by rw [Nat.add_zero, hc.length, ← h2, hlen])
          refine ⟨_, ?_, rfl, rfl⟩
          rw [run_convert_bytes_string w src dst e _ _ _ hs he hd, run_bytesToString w ⟨b, off, none⟩ n c ns (by
            simp only [loadCells] at h3 ⊢
            rw [← h1]
            simpa using h3), strOf_foldl]
          simp [strOf]
        · cases h
      · cases h
    · cases h
  · cases h
theorem val_quiet (hn : isNew o.op = false) (hs : isStore o.op = false) (hM : View E ρ m w) (he : ∀ x, (ev x).R ρ (a.eval x)) (h : (sxVal P E.rd o ev m).res = some (v, m')) : Same ρ w ((execOp a.eval o).run P w) v m m' := by
  unfold sxVal at h
  cases hop : o.op <;> simp only [hop] at h
  case move x =>
    cases h
    exact Same.mk (by simp [execOp, hop]) (he x)
  case assign x =>
    cases h
    exact Same.mk (by simp [execOp, hop]) (he x)
  case pick c x y =>
    split at h
    · rename_i t hc
      have hcr := he c
      rw [hc] at hcr
      have hcr' : a.eval c = .bool t := hcr
      have run : (execOp a.eval o).run P w = .ok (.value (if t then a.eval x else a.eval y)) w := by
        simp [execOp, hop, hcr', asBool]
      unfold sxPick at h
      split at h
      · rename_i bx byy hx hy
        cases h
        have h1 := he x
        have h2 := he y
        rw [hx] at h1
        rw [hy] at h2
        have h1' : a.eval x = .bool bx := h1
        have h2' : a.eval y = .bool byy := h2
        rw [h1', h2'] at run
        refine Same.mk run ?_
        cases t <;> rfl
      · cases t
        · cases h
          exact Same.mk run (he y)
        · cases h
          exact Same.mk run (he x)
    · cases h
  case alloc t => rw [hop] at hn; cases hn
  case box t x => rw [hop] at hn; cases hn
  case load t x =>
    obtain ⟨u', h1, h2, rfl⟩ := load_sound (P := P) hM (he x) h
    exact Same.mk (by simp [execOp, hop, h1]) h2
  case store t x y => rw [hop] at hs; cases hs
  case nilCheck x =>
    split at h
    · rename_i i off hx
      cases h
      have h1 := he x
      rw [hx] at h1
      refine Same.mk (u := a.eval x) ?_ h1
      obtain ⟨b, _, h2⟩ := h1
      simp [execOp, hop, h2]
    · rename_i f l k hx
      cases h
      have h1 := he x
      rw [hx] at h1
      refine Same.mk (u := a.eval x) ?_ h1
      obtain ⟨us, vs, h2, _, _⟩ := h1
      simp [execOp, hop, h2]
    · exact pure_sound he h
  case fieldAddr t x f =>
    split at h
    · rename_i i off hx
      unfold sxFieldAddr at h
      split at h
      · rename_i fs hfs
        split at h
        · rename_i fd hfd
          split at h
          · rename_i sz hsz
            cases h
            have h1 := he x
            rw [hx] at h1
            obtain ⟨b, h2, h3⟩ := h1
            refine Same.mk (u := .pointer (some ⟨b, off + fd.offset, none⟩)) ?_ ⟨b, h2, rfl⟩
            simp [execOp, hop, Instr.fieldAt, run_type hfs, hfd, h3, Instr.sureAddr, fieldPlace, run_size hsz, addr_add]
          · cases h
        · cases h
      · cases h
    · exact pure_sound he h
  case makeFunc fn first caps =>
    split at h
    · exact pure_sound he h
    · cases h
      refine Same.mk (u := .func fn (first.map a.eval) (caps.map a.eval)) ?_ ?_
      · simp [execOp, hop, Instr.makeFunc]
      · exact ⟨first.toList.map a.eval, caps.toList.map a.eval, by simp [← Array.toList_map], RL.map_ops he _, RL.map_ops he _⟩
  case extract x ix =>
    split at h
    · rename_i l hx
      rw [nth_eq] at h
      split at h
      · rename_i v' hv
        cases h
        have h1 := he x
        rw [hx] at h1
        obtain ⟨us, h2, h3⟩ := h1
        obtain ⟨u, h4, h5⟩ := h3.get hv
        exact Same.mk (by simp [execOp, hop, Instr.extract, h2, h4]) h5
      · cases h
    · exact pure_sound he h
  case field t x f =>
    split at h
    · rename_i l hx
      have h1 := he x
      rw [hx] at h1
      obtain ⟨us, h2, h3⟩ := h1
      unfold sxField at h
      split at h
      · rename_i fs hfs
        split at h
        · rename_i fd hfd
          split at h
          · rename_i n hg hs
            cases h
            refine Same.mk (u := .agg (cut us fd.offset n).toArray) ?_ ⟨_, rfl, (h3.drop _).take _⟩
            simp [execOp, hop, Instr.field, run_type hfs, hfd, h2, asAgg, part, run_agg hg, run_size hs, cut, List.extract_eq_take_drop]
          · rename_i hg
            rw [nth_eq] at h
            split at h
            · rename_i v' hv
              cases h
              obtain ⟨u, h4, h5⟩ := h3.get hv
              exact Same.mk (by simp [execOp, hop, Instr.field, run_type hfs, hfd, h2, asAgg, part, run_agg hg, h4]) h5
            · cases h
          · cases h
        · cases h
      · cases h
    · exact pure_sound he h
  case index t x ix =>
    split at h
    · rename_i s k n ht hx hn
      obtain ⟨h1, h⟩ := R3.need_some h
      cases h
      unfold inB at h1
      simp only [Bool.and_eq_true, decide_eq_true_eq] at h1
      have h2 := he x
      have h3 := he ix
      rw [hx] at h2
      rw [hn] at h3
      have h2' : a.eval x = .string s := h2
      have h3' : a.eval ix = .int k n := h3
      refine Same.mk (u := .int .u8 (s.data.getD n.toNat 0).toNat) ?_ rfl
      have h4 : s[n.toNat]? = some (s.data.getD n.toNat 0) := by
        rw [getElem?_pos s n.toNat h1.2]
        have h9 : n.toNat < s.data.size := h1.2
        rw [ByteArray.getElem_eq_getElem_data, Array.getD, dif_pos h9]
        rfl
      simp [execOp, hop, Instr.index, h2', h3', asIntOf, run_type ht, h1.1, h4]
    · exact pure_sound he h
  case indexAddr t x ix =>
    split at h
    · rename_i k n hn
      have h3 := he ix
      rw [hn] at h3
      have h3' : a.eval ix = .int k n := h3
      unfold sxIndexAddr at h
      split at h
      · rename_i e i off len cp ht hx
        split at h
        · rename_i sz hsz
          obtain ⟨h1, h⟩ := R3.need_some h
          cases h
          unfold inB at h1
          simp only [Bool.and_eq_true, decide_eq_true_eq] at h1
          have h2 := he x
          rw [hx] at h2
          obtain ⟨b, h4, h5⟩ := h2
          refine Same.mk (u := .pointer (some ⟨b, off + n.toNat * sz, none⟩)) ?_ ⟨b, h4, rfl⟩
          have h6 : n < (len : Int) := by omega
          simp [execOp, hop, Instr.indexAt, h5, h3', asIntOf, run_type ht, h1.1, h6, run_size hsz, addr_add]
        · cases h
      · rename_i e ad len cp ht hx
        split at h
        · rename_i sz hsz
          obtain ⟨h1, h⟩ := R3.need_some h
          cases h
          unfold inB at h1
          simp only [Bool.and_eq_true, decide_eq_true_eq] at h1
          have h2 := he x
          rw [hx] at h2
          have h5 : a.eval x = .slice (some ad) len cp := h2
          refine Same.mk (u := .pointer (some (ad.add (n.toNat * sz)))) ?_ rfl
          have h6 : n < (len : Int) := by omega
          simp [execOp, hop, Instr.indexAt, h5, h3', asIntOf, run_type ht, h1.1, h6, run_size hsz]
        · cases h
      · rename_i len e i off ht hx
        split at h
        · rename_i sz hsz
          obtain ⟨h1, h⟩ := R3.need_some h
          cases h
          unfold inB at h1
          simp only [Bool.and_eq_true, decide_eq_true_eq] at h1
          have h2 := he x
          rw [hx] at h2
          obtain ⟨b, h4, h5⟩ := h2
          refine Same.mk (u := .pointer (some ⟨b, off + n.toNat * sz, none⟩)) ?_ ⟨b, h4, rfl⟩
          have h6 : n < (len : Int) := by omega
          simp [execOp, hop, Instr.indexAt, h5, h3', asIntOf, run_type ht, h1.1, h6, run_size hsz, addr_add, Instr.sureAddr]
        · cases h
      · cases h
    · cases h
  case binOp op t x y yt =>
    have dv : ∀ rem, (op = if rem then .rem else .quo) → (sxDiv rem (ev x) (ev y) m).res = some (v, m') → Same ρ w ((execOp a.eval o).run P w) v m m' := fun rem hr h => by
      unfold sxDiv at h
      split at h
      · rename_i k n k' n' hx hy
        obtain ⟨h1, h⟩ := R3.need_some h
        cases h
        simp only [Bool.and_eq_true, decide_eq_true_eq, Bool.not_eq_true', decide_eq_false_iff_not] at h1
        obtain ⟨rfl, h1⟩ := h1
        have h2 := he x
        have h3 := he y
        rw [hx] at h2
        rw [hy] at h3
        have h2' : a.eval x = .int k n := h2
        have h3' : a.eval y = .int k n' := h3
        cases rem
        · simp only [Bool.false_eq_true, if_false] at hr
          subst hr
          exact Same.mk (by simp [execOp, hop, h2', h3', eqGuard, binOp, Op.intDiv, h1]) rfl
        · simp only [if_true] at hr
          subst hr
          exact Same.mk (by simp [execOp, hop, h2', h3', eqGuard, binOp, Op.intDiv, h1]) rfl
      · cases h
    have eqq : ∀ neg, (op = if neg then .neq else .eql) → isStruct P t = true → (sxEq P neg t (ev x) (ev y) m).res = some (v, m') → Same ρ w ((execOp a.eval o).run P w) v m m' := fun neg hr ht h => by
      unfold sxEq at h
      split at h
      · rename_i xs ys hx hy
        split at h
        · cases h
        · rename_i hg
          split at h
          · rename_i b hb
            cases h
            have h2 : a.eval x = .agg xs := SV.plain_R _ _ _ hx (he x)
            have h3 : a.eval y = .agg ys := SV.plain_R _ _ _ hy (he y)
            have h4 := eqV_run (P := P) (w := w) 8 10000 t _ _ b (by omega) hb
            have hg' : P.eqGuardType P.depth t = false := by simpa using hg
            cases neg
            · simp only [Bool.false_eq_true, if_false] at hr
              subst hr
              refine Same.mk (u := .bool b) ?_ rfl
              simp [execOp, hop, h2, h3, eqGuard, hg', binOp, Op.equal, Op.maxDepth, h4, program, Sem.run]
            · simp only [if_true] at hr
              subst hr
              refine Same.mk (u := .bool !b) ?_ rfl
              simp [execOp, hop, h2, h3, eqGuard, hg', binOp, Op.equal, Op.maxDepth, h4, program, Sem.run]
          · cases h
      · cases h
    split at h
    · exact dv false rfl h
    · exact dv true rfl h
    · split at h
      · rename_i ht
        exact eqq false rfl ht h
      · exact pure_sound he h
    · split at h
      · rename_i ht
        exact eqq true rfl ht h
      · exact pure_sound he h
    · exact pure_sound he h
  case makeMap t r =>
    cases r with
    | none => rw [hop] at hn; cases hn
    | some x => exact pure_sound he h
  case insert t mp k x => rw [hop] at hs; cases hs
  case mapUpdate t mp k x => rw [hop] at hs; cases hs
  case lookup t x ix ok =>
    unfold sxLookup at h
    split at h
    · rename_i kt et i kv ht hx hk
      have h1 := he x
      have h2 := he ix
      rw [hx] at h1
      rw [hk] at h2
      obtain ⟨r, hr, h3⟩ := h1
      have h2' : a.eval ix = kv := h2
      rw [nth_eq] at h
      split at h
      · rename_i kind l hkt hm
        split at h
        · rename_i hkind
          obtain ⟨rr, h4, h5⟩ := R3.bind_some _ _ _ h
          obtain ⟨_, hb, es, c, rfl, hl⟩ := hM.get hm hr
          obtain ⟨r', h6, h7⟩ := find_sound kind kv l es 0 rr hl h4
          have hck : ∀ e, (Instr.checkKey e 10000 kt kv).run P w = .ok () w := fun e => check_plain hkt hkind e 9999 kv
          have hgo : (getObj r).run P w = .ok (.map es.toArray c) w := by simp [getObj, Sem.run, hb]
          have hfk : (Instr.findKey kt kv es).run P w = .ok r' w := by simp [Instr.findKey, run_type hkt, h6]
          split at h5
          · rename_i v0
            cases h5
            simp only at h7
            obtain ⟨j, u, h8, h9⟩ := h7
            subst h8
            cases ok
            · exact Same.mk (u := u) (by simp [execOp, hop, h3, h2', Instr.lookup, run_type ht, hgo, hck, hfk]) h9
            · exact Same.mk (u := .tuple #[u, .bool true]) (by simp [execOp, hop, h3, h2', Instr.lookup, run_type ht, hgo, hck, hfk]) ⟨[u, .bool true], rfl, u, _, rfl, h9, _, _, rfl, rfl, rfl⟩
          · simp only at h7
            subst h7
            split at h5
            · rename_i z hz
              cases h5
              cases ok
              · exact Same.mk (u := z) (by simp [execOp, hop, h3, h2', Instr.lookup, run_type ht, hgo, hck, hfk, run_zero hz]) rfl
              · exact Same.mk (u := .tuple #[z, .bool false]) (by simp [execOp, hop, h3, h2', Instr.lookup, run_type ht, hgo, hck, hfk, run_zero hz]) ⟨[z, .bool false], rfl, z, _, rfl, rfl, _, _, rfl, rfl, rfl⟩
            · cases h5
        · cases h
      · cases h
    · cases h
  case slice t x lo hi mx =>
    split at h
    · rename_i s ht hx
      have h2 := he x
      rw [hx] at h2
      have h2' : a.eval x = .string s := h2
      have hat : ∀ l k mx', (Instr.sliceAt t (.string s) l k mx').run P w = (Instr.slice t (.string s) l k mx').run P w := fun l k mx' => by
        simp [Instr.sliceAt, run_type ht]
      unfold sxSlice at h
      split at h
      · rename_i hl hh
        cases h
        simp only [Option.map_eq_none_iff] at hl hh
        subst hl; subst hh
        exact Same.mk (by simp [execOp, hop, h2', hat, Instr.slice, run_type ht, Instr.sliceBounds]) rfl
      · rename_i kl l hl hh
        obtain ⟨h1, h⟩ := R3.need_some h
        cases h
        simp only [Bool.and_eq_true, decide_eq_true_eq] at h1
        simp only [Option.map_eq_none_iff, Option.map_eq_some_iff] at hl hh
        obtain ⟨xl, rfl, hxl⟩ := hl
        subst hh
        have h3 := he xl
        rw [hxl] at h3
        have h3' : a.eval xl = .int kl l := h3
        have h6 : l ≤ (s.size : Int) := by omega
        exact Same.mk (by simp [execOp, hop, h2', h3', hat, Instr.slice, run_type ht, Instr.sliceBounds, Instr.sliceBound, asIntOf, h1.1, h6]) rfl
      · rename_i kl l hl hh
        obtain ⟨h1, h⟩ := R3.need_some h
        cases h
        simp only [Bool.and_eq_true, decide_eq_true_eq] at h1
        simp only [Option.map_eq_none_iff, Option.map_eq_some_iff] at hl hh
        obtain ⟨xl, rfl, hxl⟩ := hh
        subst hl
        have h3 := he xl
        rw [hxl] at h3
        have h3' : a.eval xl = .int kl l := h3
        have h6 : l ≤ (s.size : Int) := by omega
        exact Same.mk (by simp [execOp, hop, h2', h3', hat, Instr.slice, run_type ht, Instr.sliceBounds, Instr.sliceBound, asIntOf, h1.1, h6]) rfl
      · rename_i kl l kh hh0 hl hh
        obtain ⟨h1, h⟩ := R3.need_some h
        cases h
        simp only [Bool.and_eq_true, decide_eq_true_eq] at h1
        simp only [Option.map_eq_some_iff] at hl hh
        obtain ⟨xl, rfl, hxl⟩ := hl
        obtain ⟨xh, rfl, hxh⟩ := hh
        have h3 := he xl
        rw [hxl] at h3
        have h3' : a.eval xl = .int kl l := h3
        have h4 := he xh
        rw [hxh] at h4
        have h4' : a.eval xh = .int kh hh0 := h4
        have h6 : l ≤ hh0 := by omega
        have h7 : hh0 ≤ (s.size : Int) := by omega
        have h8 : l ≤ (hh0.toNat : Int) := by omega
        have h9 : l ≤ max hh0 0 := by omega
        exact Same.mk (by simp [execOp, hop, h2', h3', h4', hat, Instr.slice, run_type ht, Instr.sliceBounds, Instr.sliceBound, asIntOf, h1.1.1, h6, h7, h8, h9]) rfl
      · cases h
    · cases h
  case buildSlice t n parts => rw [hop] at hn; cases hn
  case convert src dst x =>
    split at h
    · rename_i i off n c hx
      have h1 := he x
      rw [hx] at h1
      obtain ⟨u', h2, h3, rfl⟩ := conv_sound (P := P) hM h1 h
      exact Same.mk (by simp [execOp, hop, h2]) h3
    · exact pure_sound he h
  case call c =>
    split at h
    · rename_i x hcal hargs
      cases hl : sxLen P c.argTypes[0]? (ev x) m with
      | none =>
        rw [hl] at h
        exact pure_sound he h
      | some r =>
        rw [hl] at h
        have h1 := he x
        have ha : c.args = #[x] := by
          rw [← Array.toList_inj]
          simpa using hargs
        unfold sxLen at hl
        split at hl
        · rename_i e i off n cp ht hx
          cases hl
          cases h
          obtain ⟨t0, ht0, ht1⟩ := Option.bind_eq_some_iff.1 ht
          rw [hx] at h1
          obtain ⟨b, _, h2⟩ := h1
          refine Same.mk (u := .int .i64 n) ?_ rfl
          simp [execOp, hop, resolve, hcal, ha, invoke, builtin, Builtin.len_, h2, goInt, ht0, run_type ht1]
        · rename_i e sa n cp ht hx
          cases hl
          cases h
          obtain ⟨t0, ht0, ht1⟩ := Option.bind_eq_some_iff.1 ht
          rw [hx] at h1
          have h2 : a.eval x = .slice sa n cp := h1
          refine Same.mk (u := .int .i64 n) ?_ rfl
          simp [execOp, hop, resolve, hcal, ha, invoke, builtin, Builtin.len_, h2, goInt, ht0, run_type ht1]
        · cases hl
    · exact pure_sound he h
    · cases h
  all_goals exact pure_sound he h

theorem fold_lay (v : List Value) : ∀ (off : Nat) (cells : List Value), off + v.length ≤ cells.length →
    (v.zipIdx.foldl (fun (cs : Array Value) (x : Value × Nat) => cs.setIfInBounds (off + x.2) x.1) cells.toArray) = (lay cells off v).toArray := by
  have gen : ∀ (v : List Value) (off k : Nat) (cells : List Value), off + k + v.length ≤ cells.length →
      ((v.zipIdx k).foldl (fun (cs : Array Value) (x : Value × Nat) => cs.setIfInBounds (off + x.2) x.1) cells.toArray) = (lay cells (off + k) v).toArray := by
    intro v
    induction v with
    | nil => intro off k cells _; simp [lay]
    | cons x v ih =>
      intro off k cells h
      simp only [List.length_cons] at h
      rw [List.zipIdx_cons, List.foldl_cons, List.setIfInBounds_toArray, ih off (k + 1) _ (by simp; omega), lay_set cells (off + k) x v (by omega), show off + (k + 1) = off + k + 1 by omega]
  intro off cells h
  exact gen v off 0 cells (by omega)
theorem fill_all (sz : Nat) : ∀ (vs : List Value) (k : Nat) (pre rest : List Value), (∀ v ∈ vs, v.cells.size = sz) → rest.length = vs.length * sz → pre.length = k * sz →
    Instr.fill (fun i => some (i * sz, sz)) (pre ++ rest).toArray ((List.range' k vs.length).zip vs) = some (pre ++ vs.flatMap fun v => v.cells.toList).toArray
  | [], k, pre, rest, _, hr, _ => by
    have : rest = [] := List.eq_nil_of_length_eq_zero (by simpa using hr)
    subst this
    simp [Instr.fill]
  | v :: vs, k, pre, rest, hv, hr, hp => by
    have hsz := hv v (by simp)
    have hvl : v.cells.toList.length = sz := by simpa using hsz
    have hrl : rest.length = sz + vs.length * sz := by rw [hr, List.length_cons, Nat.add_mul]; omega
    rw [List.length_cons, List.range'_succ, List.zip_cons_cons]
    unfold Instr.fill
    simp only
    rw [if_neg (by simp [hsz, hp]; omega)]
    have e1 : (v.cells.zipIdx.foldl (fun (cs : Array Value) (x : Value × Nat) => cs.setIfInBounds (k * sz + x.2) x.1) (pre ++ rest).toArray) = (lay (pre ++ rest) (k * sz) v.cells.toList).toArray := by
      rw [← fold_lay v.cells.toList (k * sz) (pre ++ rest) (by rw [List.length_append, hp]; omega), ← Array.foldl_toList, Array.toList_zipIdx]
    have e2 : lay (pre ++ rest) (k * sz) v.cells.toList = (pre ++ v.cells.toList) ++ rest.drop sz := by
      unfold lay
      rw [← hp, List.take_left, List.drop_append, hvl]
      simp
    have e3 := fill_all sz vs (k + 1) (pre ++ v.cells.toList) (rest.drop sz) (fun x hx => hv x (by simp [hx])) (by simp; omega) (by rw [List.length_append, hp, hvl, Nat.add_mul]; omega)
    show Instr.fill (fun i => some (i * sz, sz)) (v.cells.zipIdx.foldl (fun (cs : Array Value) (x : Value × Nat) => cs.setIfInBounds (k * sz + x.2) x.1) (pre ++ rest).toArray) _ = _
    rw [e1, e2, e3]
    simp
theorem allSome_R (he : ∀ x, (ev x).R ρ (a.eval x)) : ∀ (l : List Operand) (css : List (List SV)), allSome (l.map fun x => (ev x).cells) = some css → SV.RL ρ css.flatten ((l.map a.eval).flatMap fun v => v.cells.toList) ∧ css.length = l.length ∧
    ∀ sz, css.all (fun c => c.length == sz) = true → ∀ v ∈ l.map a.eval, v.cells.size = sz
  | [], css, h => by
    simp only [List.map_nil, allSome, Option.some.injEq] at h
    subst h
    exact ⟨rfl, rfl, fun _ _ v hv => by simp at hv⟩
  | x :: l, css, h => by
    simp only [List.map_cons] at h
    cases hx : (ev x).cells with
    | none => rw [hx] at h; simp [allSome] at h
    | some c =>
      rw [hx] at h
      simp only [allSome, Option.map_eq_some_iff] at h
      obtain ⟨css', h1, rfl⟩ := h
      obtain ⟨h2, h3, h4⟩ := allSome_R he l css' h1
      have h5 := atom_R (he x) hx
      refine ⟨by simpa using h5.append h2, by simp [h3], fun sz hall v hv => ?_⟩
      simp only [List.all_cons, Bool.and_eq_true, beq_iff_eq] at hall
      simp only [List.map_cons, List.mem_cons] at hv
      rcases hv with rfl | hv
      · have := h5.length
        simp at this
        omega
      · exact h4 sz hall.2 v hv
theorem val_sound (hM : Mem E ρ m w) (he : ∀ x, (ev x).R ρ (a.eval x)) (h : (sxVal P E.rd o ev m).res = some (v, m')) : Does E ρ ((execOp a.eval o).run P w) v m' := by
  by_cases hn : isNew o.op = false
  · by_cases hs : isStore o.op = false
    · exact (val_quiet hn hs hM.view he h).does hM
    · have ins : ∀ t mp k x, (execOp a.eval o = do Instr.mapUpdate t (a.eval mp) (a.eval k) (a.eval x); pure .skip) →
          (sxInsert P t (ev mp) (ev k) (ev x) m).res = some (v, m') → Does E ρ ((execOp a.eval o).run P w) v m' := by
        intro t mp k x hex h
        unfold sxInsert at h
        split at h
        · rename_i kt et i kv ht hmp hk
          have h1 := he mp
          have h2 := he k
          rw [hmp] at h1
          rw [hk] at h2
          obtain ⟨r, hr, h3⟩ := h1
          have h2' : a.eval k = kv := h2
          rw [nth_eq] at h
          split at h
          · rename_i kind l hkt hm
            split at h
            · rename_i hkind
              obtain ⟨rr, h4, h5⟩ := R3.bind_some _ _ _ h
              obtain ⟨_, hb, es, c, rfl, hl⟩ := hM.get hm hr
              obtain ⟨r', h6, h7⟩ := find_sound kind kv l es 0 rr hl h4
              cases rr with
              | some v0 => cases h5
              | none =>
                cases h5
                simp only at h7
                subst h7
                have hck : (Instr.checkKey false 10000 kt kv).run P w = .ok () w := check_plain hkt hkind false 9999 kv
                have hgo : (getObj r).run P w = .ok (.map es.toArray c) w := by simp [getObj, Sem.run, hb]
                have hfk : (Instr.findKey kt kv es).run P w = .ok none w := by simp [Instr.findKey, run_type hkt, h6]
                have hrlt := hM.lt i r hr
                have hso : (setObj r (.map (es ++ [({ key := kv, val := a.eval x, born := c } : MapEntry)]).toArray (c + 1))).run P w = .ok () { w with heap := w.heap.setIfInBounds r (.map (es ++ [({ key := kv, val := a.eval x, born := c } : MapEntry)]).toArray (c + 1)) } := by
                  simp [setObj, Sem.run, hb]
                have hKL : KL ρ (l ++ [(kv, ev x)]) (es ++ [{ key := kv, val := a.eval x, born := c }]) := by
                  have gen : ∀ (l : List (Value × SV)) (es : List MapEntry), KL ρ l es → KL ρ (l ++ [(kv, ev x)]) (es ++ [{ key := kv, val := a.eval x, born := c }]) := by
                    intro l
                    induction l with
                    | nil => intro es hl; rw [KL] at hl; subst hl; exact ⟨_, [], rfl, rfl, he x, rfl⟩
                    | cons y l ih => rintro es ⟨e, es', rfl, q1, q2, q3⟩; exact ⟨e, _, rfl, q1, q2, ih es' q3⟩
                  exact gen l es hl
                refine ⟨.skip, _, ρ, undef, ?_, .inr ⟨rfl, rfl⟩, rfl, hM.write (b1 := .mp (l ++ [(kv, ev x)])) (o1 := .map (es ++ [({ key := kv, val := a.eval x, born := c } : MapEntry)]).toArray (c + 1)) hm rfl hr ⟨_, _, rfl, hKL⟩ rfl, Le.refl _⟩
                rw [hex, h3, h2']
                simp [Instr.mapUpdate, run_type ht, hgo, hck, hfk, hso]
            · cases h
          · cases h
        · cases h
      unfold sxVal at h
      cases hop : o.op <;> simp only [hop, isStore, not_true_eq_false] at hs <;> simp only [hop] at h
      case store t x y =>
        obtain ⟨w', h1, rfl, h3⟩ := store_sound (P := P) hM (he x) (he y) h
        exact ⟨_, w', ρ, undef, by simp [execOp, hop, h1], .inr ⟨rfl, rfl⟩, rfl, h3, Le.refl _⟩
      case insert t mp k x => exact ins t mp k x (by simp [execOp, hop]) h
      case mapUpdate t mp k x => exact ins t mp k x (by simp [execOp, hop]) h
  · unfold sxVal at h
    cases hop : o.op <;> simp only [hop, isNew, not_true_eq_false] at hn <;> simp only [hop] at h
    case alloc t =>
      split at h
      · rename_i z hz
        cases h
        refine ⟨_, _, ext ρ m.length w.heap.size, .pointer (some ⟨w.heap.size, 0, none⟩), ?_, .inl rfl, ?_, hM.make ⟨_, rfl, SV.RL.vals z.cells.toList⟩, ext_le (hM.fresh (Nat.le_refl _))⟩
        · simp only [execOp, hop, Instr.alloc, Sem.run_bind, run_zero hz, Result.andThen_ok, newVar, newRow, newObj, Sem.run, Sem.run_pure]
        · exact ⟨w.heap.size, if_pos rfl, rfl⟩
      · cases h
    case box t x =>
      split at h
      · rename_i l hl
        cases h
        refine ⟨_, _, ext ρ m.length w.heap.size, .pointer (some ⟨w.heap.size, 0, none⟩), ?_, .inl rfl, ?_, hM.make ⟨_, rfl, atom_R (he x) hl⟩, ext_le (hM.fresh (Nat.le_refl _))⟩
        · simp only [execOp, hop, Instr.box, Sem.run_bind, Result.andThen_ok, newVar, newRow, newObj, Sem.run, Sem.run_pure]
        · exact ⟨w.heap.size, if_pos rfl, rfl⟩
      · cases h
  
    case makeMap t r =>
      cases r with
      | some x => simp at hn
      | none =>
        cases h
        refine ⟨_, _, ext ρ m.length w.heap.size, .map (some w.heap.size), ?_, .inl rfl, ?_, hM.make (b1 := .mp []) ⟨[], 0, rfl, rfl⟩, ext_le (hM.fresh (Nat.le_refl _))⟩
        · simp [execOp, hop, Instr.makeMap, newObj, Sem.run]
        · exact ⟨w.heap.size, if_pos rfl, rfl⟩
    case buildSlice t n parts =>
      unfold sxBuildSlice at h
      split at h
      · rename_i e css ht hcss
        split at h
        · rename_i sz hsz
          split at h
          · rename_i hc
            simp only [Bool.and_eq_true, decide_eq_true_eq] at hc
            obtain ⟨⟨⟨⟨⟨hall, hix⟩, hlen⟩, hbig⟩, hpos⟩, hz⟩ := hc
            cases h
            obtain ⟨z, hz⟩ := Option.isSome_iff_exists.1 hz
            have hparts : parts.toList.map (fun p => (ev p.2).cells) = (parts.toList.map (·.2)).map fun x => (ev x).cells := by simp [Function.comp_def]
            rw [hparts] at hcss
            obtain ⟨h1, h2, h3⟩ := allSome_R he _ _ hcss
            have hix' : parts.toList.map (·.1) = List.range n := by simpa using hix
            have hlen' : css.length = n := by simpa using hlen
            have hpl : (parts.toList.map (·.2)).length = n := by rw [← h2]; exact hlen'
            refine ⟨_, _, ext ρ m.length w.heap.size, .slice (some ⟨w.heap.size, 0, none⟩) n n, ?_, .inl rfl, ⟨w.heap.size, if_pos rfl, rfl⟩, hM.make ⟨_, rfl, h1⟩, ext_le (hM.fresh (Nat.le_refl _))⟩
            have hz2 : ¬ n * sz = 0 := by omega
            have hbig' : ¬ n * sz > 2 ^ 24 := by omega
            have hlist : (parts.map fun (i, x) => (i, a.eval x)).toList = (List.range' 0 ((parts.toList.map (·.2)).map a.eval).length).zip ((parts.toList.map (·.2)).map a.eval) := by
              rw [Array.toList_map, List.length_map, hpl, ← List.range_eq_range', ← hix']
              generalize parts.toList = ps
              induction ps with
              | nil => rfl
              | cons p ps ih => simp [ih]
            have hfill := fill_all sz ((parts.toList.map (·.2)).map a.eval) 0 [] ((Array.range (n * sz)).map (fun i => z.cells[i % z.cells.size]!)).toList (h3 sz hall) (by simp [← hpl]) (by simp)
            rw [← hlist] at hfill
            simp only [List.nil_append, Array.toArray_toList] at hfill
            simp only [execOp, hop, Instr.buildSlice, Sem.run_bind, run_type ht, Result.andThen_ok, run_size hsz, hbig', if_false, hz2, run_zero hz, Sem.run_pure, hfill, newRow, newObj, Sem.run]
          · cases h
        · cases h
      · cases h

end
end Go.SX
