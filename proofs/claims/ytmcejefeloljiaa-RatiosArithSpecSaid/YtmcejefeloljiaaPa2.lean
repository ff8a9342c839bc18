/-
  A symbolic executor: regions that draw their order.
-/
import Derived.Test.YtmcejefeloljiaaPa1
import Derived.Recover
namespace Go.SX
open Go.RowKit

/-- what an operation does to the blocks -/
inductive Eff where
  | none
  | one (i : Nat) (b : Blk)
  | app (bs : List Blk)
  | all (m : List Blk)
def effM : Eff → List Blk → List Blk
  | .none, m => m
  | .one i b, m => m.set i b
  | .app bs, m => m ++ bs
  | .all m', _ => m'
/-- what an operation must see of the blocks -/
inductive Foot where
  | bs (l : List Nat)
  | len
  | all
/-- what an operation leaves -/
structure Rc where
  v : SV
  eff : Eff
def St.app (s : St) (dst : Option Tmp) (r : Rc) : St := St.put { s with m := effM r.eff s.m } dst r.v
/-- what one operation of such a region has come to -/
inductive Rec where
  | ok (r : Rc) (foot : Foot)
  | pan (v : Value) (m : Option (List Blk))
  | never
def St.appR (s : St) (dst : Option Tmp) : Rec → St
  | .ok r _ => s.app dst r
  | _ => s
def footPan : Option (List Blk) → Foot
  | none => .bs []
  | some _ => .all
/-- what an operation sees of the blocks: none, or one -/
def footOf (o : Oper) (ev : Operand → SV) : Option Nat :=
  match o.op with
  | .load _ x => match ev x with
    | .ptr i _ => some i
    | _ => none
  | .lookup _ x _ _ => match ev x with
    | .mp i => some i
    | _ => none
  | .convert _ _ x => match ev x with
    | .sl i _ _ _ => some i
    | _ => none
  | _ => none
def mask : Option Nat → List Blk → List Blk
  | none, _ => []
  | some b, m => List.replicate b .dead ++ [(m[b]?).getD .dead]
def footQ (N0 : Nat) : Option Nat → Foot
  | none => .bs []
  | some b => if b < N0 then .bs [b] else .all
/-- an operation sees the temporaries that it names -/
def evL (l : List Tmp) (s : St) : Operand → SV
  | .tmp t => if l.contains t then evalS s (.tmp t) else .any
  | x => evalS s x

section
variable (P : Program) (rd : Rd) {β : Type}
/-- an operation that makes a block: at the place 'n' -/
def sxMake (o : Oper) (ev : Operand → SV) (n : Nat) : Option Rc :=
  match o.op with
  | .alloc t => match tyZero P t with
    | some v => some ⟨.ptr n 0, .one n (.cells (v.cells.toList.map .val) t true)⟩
    | none => none
  | .box t x => match (ev x).cells with
    | some l => some ⟨.ptr n 0, .one n (.cells l t true)⟩
    | none => none
  | .makeMap _ none => some ⟨.mp n, .one n (.mp [])⟩
  | _ => none
/-- a store -/
def sxPut (o : Oper) (ev : Operand → SV) (m : List Blk) : Option (Rc × Nat) :=
  match o.op with
  | .store t x v => match ev x with
    | .ptr i off => match nth m i with
      | some b => match stBlk P t off (ev v) b with
        | some b' => some (⟨.val undef, .one i b'⟩, i)
        | none => none
      | none => none
    | _ => none
  | _ => none
/-- one operation, not a guard's -/
def sxRec (ic : ICall β) (call : CallK β) (ops : Array Oper) (N0 : Nat) (o : Oper) (n : Nat) (s : St) (k : Rec → Option β) : Option β :=
  let ev := evL (o.looksAt ops) s
  match goCall o ev with
  | some (f, args) => match SV.plainL args with
    | some vs => ic f vs fun out => match out.e with
      | .ret v => match v.plain with
        | some u => k (.ok ⟨.val u, .none⟩ (.bs []))
        | none => k (.ok ⟨v.shift s.m.length, .app (out.m.map (Blk.shift s.m.length))⟩ .len)
      | .pan v => match v.plain with
        | some u => k (.pan u none)
        | none => none
    | none => call f args s.m fun out => if N0 ≤ out.m.length then match out.e with
      | .ret v => k (.ok ⟨v, .all out.m⟩ .all)
      | .pan v => match v.plain with
        | some u => k (.pan u (some out.m))
        | none => none
      else none
  | none => match goDefer o ev, goPanics o ev with
    | none, none =>
      if isNew o.op then match nth s.m n, sxMake P o ev n with
        | some .dead, some r => if n < N0 then k (.ok r (.bs [n])) else none
        | _, _ => none
      else if isStore o.op then match sxPut P o ev s.m with
        | some (r, b) => if b < N0 then k (.ok r (.bs [b])) else none
        | none => none
      else (sxVal P rd o ev (mask (footOf o ev) s.m)).k fun r => k (.ok ⟨r.1, .none⟩ (footQ N0 (footOf o ev)))
    | _, _ => none
def sxGate (ic : ICall β) (call : CallK β) (ops : Array Oper) (N0 : Nat) (o : Oper) (n : Nat) (s : St) (k : St → Rec → Option β) : Option β :=
  match o.guard with
  | none => sxRec P rd ic call ops N0 o n s (k s)
  | some (j, want) => match gate ops s j with
    | some (some b) => match want with
      | true => bif b then sxRec P rd ic call ops N0 o n (s.refine (gateT ops j) true) (k (s.refine (gateT ops j) true)) else k (s.refine (gateT ops j) false) (.ok ⟨.val undef, .none⟩ (.bs []))
      | false => bif b then k (s.refine (gateT ops j) true) (.ok ⟨.val undef, .none⟩ (.bs [])) else sxRec P rd ic call ops N0 o n (s.refine (gateT ops j) false) (k (s.refine (gateT ops j) false))
    | some none => k s (.ok ⟨.val undef, .none⟩ (.bs []))
    | none => none
/-- the operation that panics: its number, the value, the blocks -/
abbrev Bad := Nat × Value × Option (List Blk)
def badStep (i : Nat) (bad : Option Bad) : Rec → Option (Option Bad)
  | .ok _ _ => some bad
  | .pan v m => match bad with
    | none => some (some (i, v, m))
    | some _ => none
  | .never => some bad
/-- the walk of the operations az they stand in the text; 'n': the place of the next block; 'bad': the operation that panics, if one has -/
def sxLex (ic : ICall β) (call : CallK β) (ops : Array Oper) (N0 : Nat) (pre : List (List Nat)) (fin : List Rec → Option Bad → St → Option β) : List Oper → Nat → Nat → List Rec → Option Bad → St → Option β
  | [], _, _, acc, bad, s => fin acc.reverse bad s
  | o :: rest, i, n, acc, bad, s => s.f fun s =>
    let go := fun (s : St) r => match badStep i bad r with
      | some bad' => sxLex ic call ops N0 pre fin rest (i + 1) (if isNew o.op then n + 1 else n) (r :: acc) bad' (s.appR o.dst r)
      | none => none
    match bad with
    | none => sxGate P rd ic call ops N0 o n s go
    | some (j, _) => if ((nth pre i).getD []).contains j then go s .never else sxGate P rd ic call ops N0 o n s go
end

def Foot.same (f : Foot) (m m' : List Blk) : Prop :=
  match f with
  | .bs l => ∀ b ∈ l, m'[b]? = m[b]?
  | .len => m'.length = m.length
  | .all => m' = m
/-- a state that an operation cannot tell from another -/
structure Agree (ops : Array Oper) (o : Oper) (foot : Foot) (s s' : St) : Prop where
  t : ∀ x ∈ o.looksAt ops, nth s'.t x = nth s.t x
  m : foot.same s.m s'.m

section
variable {E : Env} {P : Program} {rd : Rd} {ρ ρ' : Nat → Option Nat} {s s' : St} {a : Act} {w w' : World} {v : SV} {u : Value} {β : Type} {out : β} {ops : Array Oper} {o : Oper} {Q : Exit → Act → World → Prop}

def RecOk (rd : Rd) (P : Program) (ops : Array Oper) (N0 : Nat) (i : Nat) (o : Oper) (n : Nat) (s : St) : Rec → Prop
  | .ok r foot => ∀ (E : Env) (Q : Exit → Act → World → Prop), E.rd = rd → ∀ s', Agree ops o foot s s' → N0 ≤ s'.m.length → ∀ ρ a w (K : Act → World → Prop), Rep E ρ s' a w → (isNew o.op = true → r.eff ≠ .none → ρ n = none) →
      (∀ ρ' a' w', Rep E ρ' (s'.app o.dst r) a' w' → ((∀ m', r.eff ≠ .all m') → ∀ x, x < N0 → ρ x = none → (isNew o.op = true → x ≠ n) → ρ' x = none) → K a' w') → wpOp P ops Q i K a w
  | .pan v m => ∀ (E : Env) (Q : Exit → Act → World → Prop), E.rd = rd → ∀ s', Agree ops o (footPan m) s s' → ∀ ρ a w (K : Act → World → Prop), Rep E ρ s' a w →
      (∀ ρ' a' w', Rep E ρ' (match m with | none => s' | some m' => { s' with m := m' }) a' w' → Q (.panic [{ v := v, recovered := false }]) a' w') → wpOp P ops Q i K a w
  | .never => True
/-- a record's places are among the first N0 -/
def RecB (N0 : Nat) : Rec → Prop
  | .ok r foot => (match foot with | .bs l => ∀ b ∈ l, b < N0 | _ => True) ∧ (match r.eff with | .one i _ => i < N0 | .all m => N0 ≤ m.length | _ => True)
  | _ => True

theorem Agree.ev {foot : Foot} (h : Agree ops o foot s s') : evL (o.looksAt ops) s' = evL (o.looksAt ops) s := by
  funext x
  cases x with
  | tmp t =>
    show (if (o.looksAt ops).contains t then evalS s' (.tmp t) else .any) = if (o.looksAt ops).contains t then evalS s (.tmp t) else .any
    by_cases hc : (o.looksAt ops).contains t = true
    · have := h.t t (by simpa using hc)
      rw [if_pos hc, if_pos hc]
      simp only [evalS, this]
    · rw [if_neg hc, if_neg hc]
  | const v => rfl
  | global g => rfl
  | func f => rfl
theorem evL_R (hr : Rep E ρ s a w) (l : List Tmp) (x : Operand) : (evL l s x).R ρ (a.eval x) := by
  cases x with
  | tmp t =>
    show (if l.contains t then evalS s (.tmp t) else .any).R ρ _
    split
    · exact hr.eval (.tmp t)
    · trivial
  | const v => exact hr.eval (.const v)
  | global g => exact hr.eval (.global g)
  | func f => exact hr.eval (.func f)
theorem View.mask {m : List Blk} (h : View E ρ m w) (foot : Option Nat) : View E ρ (SX.mask foot m) w := by
  refine ⟨fun {i r b} hb hr => ?_, h.kept⟩
  cases foot with
  | none => simp [SX.mask] at hb
  | some f =>
    unfold SX.mask at hb
    rcases Nat.lt_trichotomy i f with hi | hi | hi
    · rw [List.getElem?_append_left (by simpa using hi), List.getElem?_replicate, if_pos hi] at hb
      cases hb
      exact .inl rfl
    · subst hi
      rw [List.getElem?_append_right (by simp)] at hb
      simp at hb
      cases hm : m[i]? with
      | none => rw [hm] at hb; simp at hb; exact .inl hb.symm
      | some b' => rw [hm] at hb; simp at hb; subst hb; exact h.obj hm hr
    · rw [List.getElem?_eq_none (by simp; omega)] at hb
      cases hb
theorem mask_agree {N0 : Nat} {f : Option Nat} (h : Agree ops o (footQ N0 f) s s') : mask f s'.m = mask f s.m := by
  cases f with
  | none => rfl
  | some b =>
    have h1 := h.m
    have e : s'.m[b]? = s.m[b]? := by
      by_cases hb : b < N0
      · have hf : footQ N0 (some b) = .bs [b] := if_pos hb
        rw [hf] at h1
        exact h1 b (by simp)
      · have hf : footQ N0 (some b) = .all := if_neg hb
        rw [hf] at h1
        rw [show s'.m = s.m from h1]
    show List.replicate b Blk.dead ++ [(s'.m[b]?).getD .dead] = List.replicate b Blk.dead ++ [(s.m[b]?).getD .dead]
    rw [e]
theorem wpOp_of_wp {i : Nat} {K : Act → World → Prop} (hi : ops[i]? = some o) (hw : Region.wanted o (yielded ops a.tmps) = true) (h : o.wp P a w K Q) : wpOp P ops Q i K a w := by
  unfold wpOp
  rw [hi]
  simp only
  rw [if_pos hw]
  exact .inl h
theorem wpOp_of_skip {i : Nat} {K : Act → World → Prop} (hi : ops[i]? = some o) (hw : Region.wanted o (yielded ops a.tmps) = false) (h : K (a.put o.dst undef) w) : wpOp P ops Q i K a w := by
  unfold wpOp
  rw [hi]
  simp only
  rw [if_neg (by rw [hw]; exact Bool.false_ne_true)]
  exact h

/-- an operation that is wanted: what its record says -/
theorem rec_sound {ic : ICall β} (hic : ICallOk rd P ic) {call : CallK β} (hcall : CallOk rd P call) (hN : NamesOk P) {N0 i n : Nat} (hi : ops[i]? = some o) {k : Rec → Option β} (h : sxRec P rd ic call ops N0 o n s k = some out)
    (hwant : ∀ s', (∀ x ∈ o.looksAt ops, nth s'.t x = nth s.t x) → ∀ E ρ a w, Rep E ρ s' a w → Region.wanted o (yielded ops a.tmps) = true) :
    ∃ r, k r = some out ∧ r ≠ .never ∧ RecOk rd P ops N0 i o n s r ∧ RecB N0 r := by
  unfold sxRec at h
  simp only at h
  split at h
  · rename_i f args hg
    have notNew : isNew o.op = false := by
      unfold goCall at hg
      split at hg
      · rename_i c hop; rw [hop]; rfl
      · cases hg
    split at h
    · rename_i vs hvs
      obtain ⟨hb, o2, h, hc⟩ := hic _ _ _ _ h
      have key : ∀ (E : Env) (Q : Exit → Act → World → Prop), E.rd = rd → ∀ foot s', Agree ops o foot s s' → ∀ ρ a w (K : Act → World → Prop), Rep E ρ s' a w →
          (∀ w' ρ1 (hrd : rd.Ok w fun _ => False), Mem (Env.iso rd w hrd) ρ1 o2.m w' → OutOk ρ1 o2 (fun
            | .returned v, w'' => K (a.put o.dst v) w''
            | .panicked chain, w'' => Q (.panic chain) a w''
            | .outgrown, _ => LetsOut Q) w') → wpOp P ops Q i K a w := by
        intro E Q hE foot s' hag ρ a w K hr hfin
        subst hE
        refine wpOp_of_wp hi (hwant s' hag.t E ρ a w hr) ?_
        have he := evL_R hr (o.looksAt ops)
        rw [hag.ev] at he
        obtain ⟨us, h1, h2⟩ := call_run (P := P) (w := w) hN he hg hb
        have h3 : us = vs := SV.plainL_R _ _ _ hvs h2
        subst h3
        unfold Oper.wp
        rw [h1]
        exact hc w _ hr.m.kept.read fun ρ1 w' hm1 => hfin w' ρ1 hr.m.kept.read hm1
      split at h
      · rename_i v hv
        split at h
        · rename_i u hu
          refine ⟨_, h, by simp, ?_, ⟨fun b hb => (by cases hb), trivial⟩⟩
          intro E Q hE s' hag _ ρ a w K hr hfree hK
          refine key E Q hE _ s' hag ρ a w K hr fun w' ρ1 hrd hm1 => ?_
          unfold OutOk
          rw [hv]
          intro x hx
          have : x = u := SV.plain_R _ _ _ hu hx
          subst this
          exact hK ρ _ _ (hr.put (v := .val x) (Le.refl _) rfl (hr.m.below hm1.stopIso) o.dst) (fun _ y _ hy _ => hy)
        · rename_i hu
          refine ⟨_, h, by simp, ?_, ⟨trivial, trivial⟩⟩
          intro E Q hE s' hag hN0 ρ a w K hr hfree hK
          refine key E Q hE _ s' hag ρ a w K hr fun w' ρ1 hrd hm1 => ?_
          unfold OutOk
          rw [hv]
          intro x hx
          have hlen : s'.m.length = s.m.length := hag.m
          have hs := hr.m.beside hm1
          have hput := hr.put (v := v.shift s'.m.length) (beside_le hr.m) (shift_R v x hx) hs o.dst
          refine hK (beside ρ ρ1 s'.m.length) _ _ ?_ (fun _ y hy hy2 _ => ?_)
          · rw [hlen] at hput
            unfold St.app effM
            simp only
            rw [hlen]
            exact hput
          · unfold beside
            rw [if_pos (by omega)]
            exact hy2
      · rename_i v hv
        split at h
        · rename_i u hu
          refine ⟨_, h, by simp, ?_, trivial⟩
          intro E Q hE s' hag ρ a w K hr hK
          refine key E Q hE _ s' hag ρ a w K hr fun w' ρ1 hrd hm1 => ?_
          unfold OutOk
          rw [hv]
          intro x hx
          have : x = u := SV.plain_R _ _ _ hu hx
          subst this
          exact hK ρ a w' ⟨hr.t, hr.d, hr.m.below hm1.stopIso⟩
        · cases h
    · obtain ⟨hb, o2, h, hc⟩ := hcall _ _ _ _ _ h
      have key : ∀ (E : Env) (Q : Exit → Act → World → Prop), E.rd = rd → ∀ s', Agree ops o .all s s' → ∀ ρ a w (K : Act → World → Prop), Rep E ρ s' a w →
          (∀ w' ρ', Le ρ ρ' → Mem E ρ' o2.m w' → OutOk ρ' o2 (fun
            | .returned v, w'' => K (a.put o.dst v) w''
            | .panicked chain, w'' => Q (.panic chain) a w''
            | .outgrown, _ => LetsOut Q) w') → wpOp P ops Q i K a w := by
        intro E Q hE s' hag ρ a w K hr hfin
        refine wpOp_of_wp hi (hwant s' hag.t E ρ a w hr) ?_
        have he := evL_R hr (o.looksAt ops)
        rw [hag.ev] at he
        obtain ⟨us, h1, h2⟩ := call_run (P := P) (w := w) hN he hg hb
        unfold Oper.wp
        rw [h1]
        have hm := hr.m
        rw [show s'.m = s.m from hag.m] at hm
        exact hc E hE ρ w us _ hm h2 fun ρ' w' hl hm1 => hfin w' ρ' hl hm1
      split at h
      · rename_i hlen
        split at h
        · rename_i v hv
          refine ⟨_, h, by simp, ?_, ⟨trivial, hlen⟩⟩
          intro E Q hE s' hag hN0 ρ a w K hr hfree hK
          refine key E Q hE s' hag ρ a w K hr fun w' ρ' hl hm1 => ?_
          unfold OutOk
          rw [hv]
          intro x hx
          exact hK ρ' _ _ (hr.put hl hx hm1 o.dst) (fun hall => absurd rfl (hall _))
        · rename_i v hv
          split at h
          · rename_i u hu
            refine ⟨_, h, by simp, ?_, trivial⟩
            intro E Q hE s' hag ρ a w K hr hK
            refine key E Q hE s' hag ρ a w K hr fun w' ρ' hl hm1 => ?_
            unfold OutOk
            rw [hv]
            intro x hx
            have : x = u := SV.plain_R _ _ _ hu hx
            subst this
            exact hK ρ' a w' (hr.mem hl hm1)
          · cases h
      · cases h
  · rename_i hg
    split at h
    · rename_i hd hp
      split at h
      · rename_i hnew
        split at h
        · rename_i r hdead hmk
          split at h
          · rename_i hnN
            have hB : RecB N0 (.ok r (.bs [n])) := by
              refine ⟨fun b hb => (by simp at hb; omega), ?_⟩
              unfold sxMake at hmk
              cases hop : o.op <;> rw [hop] at hmk <;> try (cases hmk; done)
              · simp only at hmk
                split at hmk
                · cases hmk; exact hnN
                · cases hmk
              · simp only at hmk
                split at hmk
                · cases hmk; exact hnN
                · cases hmk
              · rename_i t rs
                cases rs with
                | none => cases hmk; exact hnN
                | some x => cases hmk
            refine ⟨_, h, by simp, ?_, hB⟩
            intro E Q hE s' hag hN0 ρ a w K hr hfree hK
            refine wpOp_of_wp hi (hwant s' hag.t E ρ a w hr) ?_
            have he := evL_R hr (o.looksAt ops)
            rw [hag.ev] at he
            have hlen : n < s'.m.length := by omega
            have make : ∀ (b1 : Blk) (o1 : Obj) (v1 : SV) (u1 : Value), b1.O ρ o1 → v1.R (ext ρ n w.heap.size) u1 → r = ⟨v1, .one n b1⟩ → (execOp a.eval o).run P w = .ok (.value u1) { w with heap := w.heap.push o1 } → o.wp P a w K Q := by
              intro b1 o1 v1 u1 hl hv1 hre hrun
              subst hre
              have hn := hfree hnew (by simp)
              unfold Oper.wp
              rw [hrun]
              refine hK (ext ρ n w.heap.size) _ _ (hr.put (ext_le hn) hv1 (hr.m.newAt hl hn (fun i hi => by simpa [effM] using hi) (fun i b hne h1 _ => ?_) ?_) o.dst) (fun _ x hx0 hx hxn => ?_)
              · simp only [effM] at h1
                rw [List.getElem?_set_ne (Ne.symm hne)] at h1
                exact h1
              · simp [effM, hlen]
              · unfold ext
                rw [if_neg (hxn hnew)]
                exact hx
            unfold sxMake at hmk
            cases hop : o.op <;> rw [hop] at hmk <;> try (cases hmk; done)
            · rename_i t
              simp only at hmk
              split at hmk
              · rename_i z hz
                cases hmk
                refine make (.cells (z.cells.toList.map .val) t true) (.cells z.cells.toList.toArray t) (.ptr n 0) (.pointer (some ⟨w.heap.size, 0, none⟩)) ⟨_, rfl, SV.RL.vals _⟩ ⟨w.heap.size, if_pos rfl, rfl⟩ rfl ?_
                simp only [execOp, hop, Instr.alloc, Sem.run_bind, run_zero hz, Result.andThen_ok, newVar, newRow, newObj, Sem.run, Sem.run_pure]
              · cases hmk
            · rename_i t x
              simp only at hmk
              split at hmk
              · rename_i l hl
                cases hmk
                refine make (.cells l t true) (.cells (a.eval x).cells.toList.toArray t) (.ptr n 0) (.pointer (some ⟨w.heap.size, 0, none⟩)) ⟨_, rfl, atom_R (he x) hl⟩ ⟨w.heap.size, if_pos rfl, rfl⟩ rfl ?_
                simp only [execOp, hop, Instr.box, Sem.run_bind, Result.andThen_ok, newVar, newRow, newObj, Sem.run, Sem.run_pure]
              · cases hmk
            · rename_i t rs
              cases rs with
              | some x => cases hmk
              | none =>
                cases hmk
                refine make (.mp []) (.map #[] 0) (.mp n) (.map (some w.heap.size)) ⟨[], 0, rfl, rfl⟩ ⟨w.heap.size, if_pos rfl, rfl⟩ rfl ?_
                simp [execOp, hop, Instr.makeMap, newObj, Sem.run]
          · cases h
        · cases h
      · rename_i hnew
        have hnew' : isNew o.op = false := by simpa using hnew
        split at h
        · rename_i hst
          split at h
          · rename_i r b hput
            split at h
            · rename_i hbN
              unfold sxPut at hput
              cases hop : o.op <;> rw [hop] at hput <;> try (cases hput; done)
              rename_i t x y
              simp only at hput
              split at hput
              · rename_i j off hx
                rw [nth_eq] at hput
                split at hput
                · rename_i bb hbb
                  split at hput
                  · rename_i b' hb'
                    cases hput
                    refine ⟨_, h, by simp, ?_, ⟨fun q hq => (by simp at hq; omega), hbN⟩⟩
                    intro E Q hE s' hag hN0 ρ a w K hr hfree hK
                    refine wpOp_of_wp hi (hwant s' hag.t E ρ a w hr) ?_
                    have he := evL_R hr (o.looksAt ops)
                    rw [hag.ev] at he
                    have h1 := he x
                    rw [hx] at h1
                    obtain ⟨q, hq, hq2⟩ := h1
                    have hbb' : s'.m[b]? = some bb := (hag.m b (by simp)).trans hbb
                    obtain ⟨w', h2, h3⟩ := stBlk_sound (P := P) hr.m hq hbb' (he y) hb'
                    unfold Oper.wp
                    rw [show (execOp a.eval o).run P w = .ok .skip w' by simp [execOp, hop, hq2, h2]]
                    exact hK ρ _ _ (hr.put (Le.refl _) undef_R h3 o.dst) (fun _ x _ hx _ => hx)
                  · cases hput
                · cases hput
              · cases hput
            · cases h
          · cases h
        · rename_i hst
          have hst' : isStore o.op = false := by simpa using hst
          obtain ⟨⟨v, m'⟩, h1, h2⟩ := R3.k_some _ _ _ h
          have hB : RecB N0 (.ok ⟨v, .none⟩ (footQ N0 (footOf o (evL (o.looksAt ops) s)))) := by
            refine ⟨?_, trivial⟩
            cases footOf o (evL (o.looksAt ops) s) with
            | none => exact fun b hb => by cases hb
            | some q =>
              by_cases hq : q < N0
              · rw [show footQ N0 (some q) = .bs [q] from if_pos hq]
                intro b hb
                rw [List.mem_singleton] at hb
                omega
              · rw [show footQ N0 (some q) = .all from if_neg hq]
                trivial
          refine ⟨_, h2, by simp, ?_, hB⟩
          intro E Q hE s' hag hN0 ρ a w K hr hfree hK
          refine wpOp_of_wp hi (hwant s' hag.t E ρ a w hr) ?_
          have he := evL_R hr (o.looksAt ops)
          rw [hag.ev] at he
          rw [← mask_agree hag] at h1
          subst hE
          obtain ⟨u, h3, h4, _⟩ := val_quiet (P := P) hnew' hst' (hr.m.view.mask _) he h1
          unfold Oper.wp
          rw [h3]
          exact hK ρ _ _ (hr.put (Le.refl _) h4 hr.m o.dst) (fun _ x _ hx _ => hx)
    · cases h
theorem gate_sound {ic : ICall β} (hic : ICallOk rd P ic) {call : CallK β} (hcall : CallOk rd P call) (hN : NamesOk P) {N0 i n : Nat} (hi : ops[i]? = some o) {k : St → Rec → Option β} (h : sxGate P rd ic call ops N0 o n s k = some out) :
    ∃ r, k s r = some out ∧ r ≠ .never ∧ RecOk rd P ops N0 i o n s r ∧ RecB N0 r := by
  unfold sxGate at h
  split at h
  · rename_i hg
    exact rec_sound hic hcall hN hi h fun s' _ E ρ a w _ => by simp [Region.wanted, hg]
  · rename_i j want hg
    have hgate : ∀ s', (∀ x ∈ o.looksAt ops, nth s'.t x = nth s.t x) → gate ops s' j = gate ops s j := fun s' hs' => by
      unfold gate
      cases ht : (ops[j]?).bind (·.dst) with
      | none => rfl
      | some t =>
        simp only
        rw [hs' t (by unfold Oper.looksAt; rw [hg]; simp only; rw [ht]; simp)]
    have skip : ∀ b', gate ops s j = some b' → b' ≠ some want → RecOk rd P ops N0 i o n s (.ok ⟨.val undef, .none⟩ (.bs [])) := fun b' hb' hne E Q hE s' hag _ ρ a w K hr _ hK => by
      have h1 := gate_R hr ((hgate s' hag.t).trans hb')
      refine wpOp_of_skip hi ?_ (hK ρ _ _ (hr.put (v := .val undef) (m' := s'.m) (Le.refl _) rfl hr.m o.dst) (fun _ x _ hx _ => hx))
      unfold Region.wanted
      rw [hg]
      simp only
      rw [h1]
      exact beq_eq_false_iff_ne.2 hne
    split at h
    · rename_i b hb
      have hrf := gate_refine hb
      have run : ∀ b', b' = want → gate ops s j = some (some b') → sxRec P rd ic call ops N0 o n s (k s) = some out → ∃ r, k s r = some out ∧ r ≠ .never ∧ RecOk rd P ops N0 i o n s r ∧ RecB N0 r := fun b' hb' hgb hrun => by
        subst hb'
        refine rec_sound hic hcall hN hi hrun fun s' hs' E ρ a w hr => ?_
        have h1 := gate_R hr ((hgate s' hs').trans hgb)
        unfold Region.wanted
        rw [hg]
        simp only
        rw [h1]
        exact beq_self_eq_true _
      cases want <;> cases b <;> simp only [cond_true, cond_false] at h <;> rw [hrf] at h
      · exact run false rfl hb h
      · exact ⟨_, h, by simp, skip _ hb (fun e => by cases e), ⟨fun b hb => (by cases hb), trivial⟩⟩
      · exact ⟨_, h, by simp, skip _ hb (fun e => by cases e), ⟨fun b hb => (by cases hb), trivial⟩⟩
      · exact run true rfl hb h
    · rename_i hb
      exact ⟨_, h, by simp, skip _ hb (fun e => by cases e), ⟨fun b hb => (by cases hb), trivial⟩⟩
    · cases h

/-- the records of the walk az the text has it -/
def LexP (rd : Rd) (P : Program) (ops : Array Oper) (N0 : Nat) (pre : List (List Nat)) : List Oper → List Rec → Nat → Nat → Option Bad → Option Bad → St → St → Prop
  | [], recs, _, _, bad, bad', s, s' => recs = [] ∧ bad' = bad ∧ s' = s
  | o :: l, recs, i, n, bad, bad', s, s' => ∃ r recs' b1, recs = r :: recs' ∧ (r = .never → ∃ j v, bad = some (j, v) ∧ j ∈ (nth pre i).getD []) ∧ RecOk rd P ops N0 i o n s r ∧ RecB N0 r ∧
      badStep i bad r = some b1 ∧ LexP rd P ops N0 pre l recs' (i + 1) (if isNew o.op then n + 1 else n) b1 bad' (s.appR o.dst r) s'
theorem lex_sound {ic : ICall β} (hic : ICallOk rd P ic) {call : CallK β} (hcall : CallOk rd P call) (hN : NamesOk P) {N0 : Nat} {pre : List (List Nat)} {fin : List Rec → Option Bad → St → Option β} : ∀ (l : List Oper) (i n : Nat) (acc : List Rec) (bad : Option Bad) (s : St),
    (∀ j, l[j]? = ops[i + j]?) → sxLex P rd ic call ops N0 pre fin l i n acc bad s = some out → ∃ recs bad' s', LexP rd P ops N0 pre l recs i n bad bad' s s' ∧ fin (acc.reverse ++ recs) bad' s' = some out
  | [], i, n, acc, bad, s, hl, h => ⟨[], bad, s, ⟨rfl, rfl, rfl⟩, by simpa [sxLex] using h⟩
  | o :: l, i, n, acc, bad, s, hl, h => by
    have h0 : ops[i]? = some o := by simpa using (hl 0).symm
    have hl' : ∀ j, l[j]? = ops[i + 1 + j]? := fun j => by have := hl (j + 1); simpa [Nat.add_assoc, Nat.add_comm 1 j] using this
    unfold sxLex at h
    rw [St.f_eq] at h
    simp only at h
    have fini : ∀ r, (match badStep i bad r with
      | some bad' => sxLex P rd ic call ops N0 pre fin l (i + 1) (if isNew o.op then n + 1 else n) (r :: acc) bad' (s.appR o.dst r)
      | none => none) = some out → (r = .never → ∃ j v, bad = some (j, v) ∧ j ∈ (nth pre i).getD []) → RecOk rd P ops N0 i o n s r → RecB N0 r →
        ∃ recs bad' s', LexP rd P ops N0 pre (o :: l) recs i n bad bad' s s' ∧ fin (acc.reverse ++ recs) bad' s' = some out := fun r hr hnv hrec hrb => by
      split at hr
      · rename_i b1 hb1
        obtain ⟨recs, bad', s', h1, h2⟩ := lex_sound hic hcall hN l _ _ _ _ _ hl' hr
        exact ⟨r :: recs, bad', s', ⟨r, recs, b1, rfl, hnv, hrec, hrb, hb1, h1⟩, by simpa using h2⟩
      · cases hr
    split at h
    · obtain ⟨r, h1, h2, h3, h4⟩ := gate_sound hic hcall hN h0 h
      exact fini r h1 (fun e => absurd e h2) h3 h4
    · rename_i j v
      split at h
      · rename_i hc
        exact fini .never h (fun _ => ⟨j, v, rfl, by simpa using hc⟩) trivial trivial
      · obtain ⟨r, h1, h2, h3, h4⟩ := gate_sound hic hcall hN h0 h
        exact fini r h1 (fun e => absurd e h2) h3 h4

end
end Go.SX

/-
  A symbolic executor: whatever order a region draws, it comes to the same.
-/
namespace Go.SX
open Go.RowKit

def tgtT (d : Option Tmp) : Rec → Option Tmp
  | .ok _ _ => d
  | _ => none
/-- what an operation writes of the blocks -/
inductive Wr where
  | none
  | one (i : Nat)
  | app
  | all
def wrOf : Rec → Wr
  | .ok r _ => match r.eff with
    | .none => .none
    | .one i _ => .one i
    | .app _ => .app
    | .all _ => .all
  | _ => .none
def footR : Rec → Foot
  | .ok _ f => f
  | .pan _ m => footPan m
  | .never => .bs []
def hits : Wr → Foot → Bool
  | .none, _ => false
  | .one i, .bs l => l.contains i
  | .one _, .len => false
  | .one _, .all => true
  | .app, .bs _ => false
  | .app, _ => true
  | .all, .bs l => !l.isEmpty
  | .all, _ => true
def meets : Wr → Wr → Bool
  | .none, _ => false
  | _, .none => false
  | .one i, .one j => decide (i = j)
  | .one _, .app => false
  | .app, .one _ => false
  | _, _ => true
/-- two operations that must stand in the text's order -/
def clash (ops : Array Oper) (o p : Oper) (r q : Rec) : Bool :=
  (match tgtT o.dst r with
   | some x => (p.looksAt ops).contains x || decide (tgtT p.dst q = some x)
   | none => false) ||
  (match tgtT p.dst q with
   | some x => (o.looksAt ops).contains x
   | none => false) ||
  hits (wrOf r) (footR q) || hits (wrOf q) (footR r) || meets (wrOf r) (wrOf q)
def isAll : Rec → Bool
  | .ok r _ => match r.eff with | .all _ => true | _ => false
  | _ => false
/-- behind a call that may write any block no block is made -/
def newB : List Oper → List Rec → Bool
  | _ :: l, r :: rs => (!isAll r || l.all fun o => !isNew o.op) && newB l rs
  | _, _ => true
def preOf (pre : List (List Nat)) (i : Nat) : List Nat := (nth pre i).getD []
def aftersOf (o : Oper) : List Nat := (o.after.toList.filter (Region.binds .any)).map (·.on)
/-- the table of what must have come before -/
def nf {γ : Type} (n : Nat) (k : Nat → γ) : γ :=
  match n with
  | 0 => k 0
  | m + 1 => k (m + 1)
theorem nf_eq {γ : Type} (n : Nat) (k : Nat → γ) : nf n k = k n := by cases n <;> rfl
def maskOf (o : Oper) (acc : List Nat) : Nat := (aftersOf o).foldl (fun m e => Nat.lor (Nat.lor m (2 ^ e)) ((nth acc e).getD 0)) 0
def mkMask : List Oper → List Nat → List Nat
  | [], acc => acc
  | o :: l, acc => nf (maskOf o acc) fun x => lf (fun y k => k y) (acc ++ [x]) fun acc' => mkMask l acc'
def bitsOf (n m : Nat) : List Nat := (List.range n).filter fun i => Nat.testBit m i
def mkPre (l : List Oper) : List (List Nat) := (mkMask l []).map (bitsOf l.length)
def preF {γ : Type} (l : List (List Nat)) (k : List (List Nat) → γ) : γ := lf (fun x k => lf nf x k) l k
theorem preF_eq {γ : Type} (l : List (List Nat)) (k : List (List Nat) → γ) : preF l k = k l := lf_eq _ (fun x k => lf_eq _ nf_eq x k) l k
def preB (pre : List (List Nat)) : List Oper → Nat → Bool
  | [], _ => true
  | o :: l, i => (aftersOf o).all (fun e => decide (e < i)) && (preOf pre i).all (fun p => (aftersOf o).contains p || (aftersOf o).any fun q => (preOf pre q).contains p) && preB pre l (i + 1)
def pairB (ops : Array Oper) (pre : List (List Nat)) (o : Oper) (r : Rec) (i : Nat) : List Oper → List Rec → Nat → Bool
  | p :: l, q :: rs, j => (!clash ops o p r q || (preOf pre j).contains i) && pairB ops pre o r i l rs (j + 1)
  | _, _, _ => true
def orderB (ops : Array Oper) (pre : List (List Nat)) : List Oper → List Rec → Nat → Bool
  | o :: l, r :: rs, i => pairB ops pre o r i l rs (i + 1) && orderB ops pre l rs (i + 1)
  | _, _, _ => true

/-- the state when these have come -/
def comb : List Oper → List Rec → (Nat → Bool) → Nat → St → St
  | o :: l, r :: rs, f, i, s => comb l rs f (i + 1) (if f i then s.appR o.dst r else s)
  | _, _, _, _, s => s

section
theorem app_t (s : St) (d : Option Tmp) (r : Rec) : (s.appR d r).t = match r, d with | .ok rc _, some x => s.t.set x rc.v | _, _ => s.t := by
  cases r <;> cases d <;> rfl
theorem app_d (s : St) (d : Option Tmp) (r : Rec) : (s.appR d r).d = s.d := by
  cases r <;> cases d <;> rfl
theorem St.ext3 {s s' : St} (h1 : s.t = s'.t) (h2 : s.m = s'.m) (h3 : s.d = s'.d) : s = s' := by
  cases s; cases s'; simp_all
theorem app_t_get {s s' : St} {d : Option Tmp} {r : Rec} {x : Nat} (h : nth s.t x = nth s'.t x) (hl : s.t.length = s'.t.length) : nth (s.appR d r).t x = nth (s'.appR d r).t x ∧ (s.appR d r).t.length = (s'.appR d r).t.length := by
  rw [app_t, app_t]
  rw [nth_eq, nth_eq] at *
  cases r <;> cases d <;> first | exact ⟨h, hl⟩ | skip
  rename_i rc _ y
  simp only [List.getElem?_set, List.length_set, hl, h]
  exact ⟨trivial, trivial⟩
theorem app_t_other {s : St} {d : Option Tmp} {r : Rec} {x : Nat} (h : tgtT d r ≠ some x) : nth (s.appR d r).t x = nth s.t x ∧ (s.appR d r).t.length = s.t.length := by
  rw [app_t]
  rw [nth_eq, nth_eq]
  cases r <;> cases d <;> first | exact ⟨rfl, rfl⟩ | skip
  rename_i rc _ y
  have : y ≠ x := fun e => h (by simp [tgtT, e])
  simp [List.getElem?_set_ne this]
/-- what two lists of blocks have in common -/
def Foot.rel (f : Foot) (m m' : List Blk) : Prop :=
  match f with
  | .bs l => ∀ b ∈ l, m[b]? = m'[b]?
  | .len => m.length = m'.length
  | .all => m = m'
def FootB (N0 : Nat) : Foot → Prop
  | .bs l => ∀ b ∈ l, b < N0
  | _ => True
theorem app_m' (s : St) (d : Option Tmp) (r : Rec) : (s.appR d r).m = match r with | .ok rc _ => effM rc.eff s.m | _ => s.m := by
  cases r <;> cases d <;> rfl
theorem app_len {s : St} {d : Option Tmp} {r : Rec} {N0 : Nat} (hr : RecB N0 r) (h : N0 ≤ s.m.length) : N0 ≤ (s.appR d r).m.length := by
  rw [app_m']
  cases r with
  | pan v m => exact h
  | never => exact h
  | ok rc f =>
    obtain ⟨v, e⟩ := rc
    cases e with
    | none => exact h
    | one i b => simpa [effM] using h
    | app bs => simp [effM]; omega
    | all m => exact hr.2
/-- a step on both sides -/
theorem rel_both {s s' : St} {d : Option Tmp} {r : Rec} {f : Foot} {N0 : Nat} (hf : FootB N0 f) (hl : N0 ≤ s.m.length) (hl' : N0 ≤ s'.m.length) (h : f.rel s.m s'.m) : f.rel (s.appR d r).m (s'.appR d r).m := by
  rw [app_m', app_m']
  cases r with
  | pan v m => exact h
  | never => exact h
  | ok rc g =>
    obtain ⟨v, e⟩ := rc
    cases e with
    | none => exact h
    | one i b =>
      cases f with
      | bs l =>
        intro x hx
        have h1 := hf x hx
        have h2 := h x hx
        simp only [effM, List.getElem?_set, h2]
        by_cases hi : i = x
        · subst hi; rw [if_pos rfl, if_pos rfl, if_pos (by omega), if_pos (by omega)]
        · rw [if_neg hi, if_neg hi]
      | len => simpa [effM, Foot.rel] using h
      | all => simp only [Foot.rel] at h ⊢; rw [h]
    | app bs =>
      cases f with
      | bs l =>
        intro x hx
        have h1 := hf x hx
        simp only [effM]
        rw [List.getElem?_append_left (by omega), List.getElem?_append_left (by omega)]
        exact h x hx
      | len => simp only [effM, Foot.rel, List.length_append] at h ⊢; omega
      | all => simp only [Foot.rel] at h ⊢; rw [h]
    | all m =>
      cases f with
      | bs l => exact fun _ _ => rfl
      | len => rfl
      | all => rfl
/-- a step on one side, which does not hit -/
theorem rel_one {s : St} {d : Option Tmp} {r : Rec} {f : Foot} {N0 : Nat} (hf : FootB N0 f) (hl : N0 ≤ s.m.length) (hh : hits (wrOf r) f = false) : f.rel (s.appR d r).m s.m := by
  have refl : ∀ m, f.rel m m := fun m => by cases f <;> first | exact fun _ _ => rfl | rfl
  rw [app_m']
  cases r with
  | pan v m => exact refl _
  | never => exact refl _
  | ok rc g =>
    obtain ⟨v, e⟩ := rc
    cases e with
    | none => exact refl _
    | one i b =>
      cases f with
      | bs l =>
        intro x hx
        have : i ≠ x := fun e => by
          subst e
          simp [wrOf, hits] at hh
          exact hh hx
        simp [effM, List.getElem?_set_ne this]
      | len => simp [effM, Foot.rel]
      | all => simp [wrOf, hits] at hh
    | app bs =>
      cases f with
      | bs l =>
        intro x hx
        have h1 := hf x hx
        simp only [effM]
        rw [List.getElem?_append_left (by omega)]
      | len => simp [wrOf, hits] at hh
      | all => simp [wrOf, hits] at hh
    | all m =>
      cases f with
      | bs l =>
        cases l with
        | nil => exact fun x hx => by cases hx
        | cons y l => simp [wrOf, hits] at hh
      | len => simp [wrOf, hits] at hh
      | all => simp [wrOf, hits] at hh
theorem Foot.rel_trans {f : Foot} {a b c : List Blk} (h : f.rel a b) (k : f.rel b c) : f.rel a c := by
  cases f with
  | bs l => exact fun x hx => (h x hx).trans (k x hx)
  | len => exact Eq.trans h k
  | all => exact Eq.trans h k
theorem Foot.rel_symm {f : Foot} {a b : List Blk} (h : f.rel a b) : f.rel b a := by
  cases f with
  | bs l => exact fun x hx => (h x hx).symm
  | len => exact Eq.symm h
  | all => exact Eq.symm h
theorem comb_t {x : Nat} : ∀ (l : List Oper) (rs : List Rec) (f g : Nat → Bool) (i : Nat) (s s' : St), nth s.t x = nth s'.t x → s.t.length = s'.t.length →
    (∀ j o r, l[j]? = some o → rs[j]? = some r → tgtT o.dst r = some x → f (i + j) = g (i + j)) → nth (comb l rs f i s).t x = nth (comb l rs g i s').t x ∧ (comb l rs f i s).t.length = (comb l rs g i s').t.length
  | [], _, _, _, _, _, _, h, hl, _ => ⟨h, hl⟩
  | o :: l, [], _, _, _, _, _, h, hl, _ => ⟨h, hl⟩
  | o :: l, r :: rs, f, g, i, s, s', h, hl, hw => by
    unfold comb
    have step : nth (if f i then s.appR o.dst r else s).t x = nth (if g i then s'.appR o.dst r else s').t x ∧ (if f i then s.appR o.dst r else s).t.length = (if g i then s'.appR o.dst r else s').t.length := by
      by_cases ht : tgtT o.dst r = some x
      · have := hw 0 o r rfl rfl ht
        rw [Nat.add_zero] at this
        rw [this]
        cases g i
        · exact ⟨h, hl⟩
        · exact app_t_get h hl
      · have e1 := app_t_other (s := s) ht
        have e2 := app_t_other (s := s') ht
        cases f i <;> cases g i <;> simp only [Bool.false_eq_true, if_false, if_true, e1, e2, h, hl] <;> exact ⟨trivial, trivial⟩
    exact comb_t l rs f g (i + 1) _ _ step.1 step.2 fun j o' r' h1 h2 h3 => by
      have := hw (j + 1) o' r' (by simpa using h1) (by simpa using h2) h3
      rw [show i + 1 + j = i + (j + 1) by omega]
      exact this
theorem comb_len {N0 : Nat} : ∀ (l : List Oper) (rs : List Rec) (f : Nat → Bool) (i : Nat) (s : St), (∀ r ∈ rs, RecB N0 r) → N0 ≤ s.m.length → N0 ≤ (comb l rs f i s).m.length
  | [], _, _, _, _, _, h => h
  | _ :: _, [], _, _, _, _, h => h
  | o :: l, r :: rs, f, i, s, hB, h => by
    unfold comb
    refine comb_len l rs f (i + 1) _ (fun q hq => hB q (by simp [hq])) ?_
    split
    · exact app_len (hB r (by simp)) h
    · exact h
theorem comb_m {N0 : Nat} {ft : Foot} (hf : FootB N0 ft) : ∀ (l : List Oper) (rs : List Rec) (f g : Nat → Bool) (i : Nat) (s s' : St), (∀ r ∈ rs, RecB N0 r) → N0 ≤ s.m.length → N0 ≤ s'.m.length → ft.rel s.m s'.m →
    (∀ j o r, l[j]? = some o → rs[j]? = some r → hits (wrOf r) ft = true → f (i + j) = g (i + j)) → ft.rel (comb l rs f i s).m (comb l rs g i s').m
  | [], _, _, _, _, _, _, _, _, _, h, _ => h
  | o :: l, [], _, _, _, _, _, _, _, _, h, _ => h
  | o :: l, r :: rs, f, g, i, s, s', hB, hl, hl', h, hw => by
    unfold comb
    have hBr := hB r (by simp)
    have len : ∀ (b : Bool) (s : St), N0 ≤ s.m.length → N0 ≤ (if b then s.appR o.dst r else s).m.length := fun b s hs => by
      cases b
      · exact hs
      · exact app_len hBr hs
    have step : ft.rel (if f i then s.appR o.dst r else s).m (if g i then s'.appR o.dst r else s').m := by
      cases hh : hits (wrOf r) ft with
      | true =>
        have := hw 0 o r rfl rfl hh
        rw [Nat.add_zero] at this
        rw [this]
        cases g i
        · exact h
        · exact rel_both hf hl hl' h
      | false =>
        have e1 := rel_one (d := o.dst) hf hl hh
        have e2 := rel_one (d := o.dst) hf hl' hh
        cases f i <;> cases g i <;> simp only [Bool.false_eq_true, if_false, if_true]
        · exact h
        · exact Foot.rel_trans h (Foot.rel_symm e2)
        · exact Foot.rel_trans e1 h
        · exact Foot.rel_trans e1 (Foot.rel_trans h (Foot.rel_symm e2))
    exact comb_m hf l rs f g (i + 1) _ _ (fun q hq => hB q (by simp [hq])) (len _ s hl) (len _ s' hl') step fun j o' r' h1 h2 h3 => by
      have := hw (j + 1) o' r' (by simpa using h1) (by simpa using h2) h3
      rw [show i + 1 + j = i + (j + 1) by omega]
      exact this
theorem app_comm {N0 : Nat} {s : St} {d e : Option Tmp} {r q : Rec} (hr : RecB N0 r) (hq : RecB N0 q) (hl : N0 ≤ s.m.length) (h1 : ∀ x, tgtT d r = some x → tgtT e q ≠ some x) (h2 : meets (wrOf r) (wrOf q) = false) : (s.appR d r).appR e q = (s.appR e q).appR d r := by
  apply St.ext3
  · rw [app_t, app_t, app_t, app_t]
    cases r <;> cases d <;> cases q <;> cases e <;> first | rfl | skip
    rename_i rc _ x qc _ y
    have : x ≠ y := fun he => h1 x rfl (by simp [tgtT, he])
    exact List.set_comm _ _ this
  · rw [app_m', app_m', app_m', app_m']
    cases r with
    | pan v m => rfl
    | never => rfl
    | ok rc f =>
      cases q with
      | pan v m => rfl
      | never => rfl
      | ok qc g =>
        obtain ⟨v, e⟩ := rc
        obtain ⟨u, k⟩ := qc
        cases e with
        | none => rfl
        | one i b =>
          cases k with
          | none => rfl
          | one j c =>
            have : i ≠ j := fun he => by simp [wrOf, meets, he] at h2
            exact List.set_comm _ _ this
          | app bs =>
            have hi : i < N0 := hr.2
            simp only [effM]
            rw [List.set_append_left _ _ (by omega)]
          | all m => simp [wrOf, meets] at h2
        | app bs =>
          cases k with
          | none => rfl
          | one j c =>
            have hj : j < N0 := hq.2
            simp only [effM]
            rw [List.set_append_left _ _ (by omega)]
          | app cs => simp [wrOf, meets] at h2
          | all m => simp [wrOf, meets] at h2
        | all m =>
          cases k with
          | none => rfl
          | one j c => simp [wrOf, meets] at h2
          | app cs => simp [wrOf, meets] at h2
          | all m => simp [wrOf, meets] at h2
  · rw [app_d, app_d, app_d, app_d]
theorem comb_app {N0 : Nat} {d : Option Tmp} {r : Rec} (hr : RecB N0 r) : ∀ (l : List Oper) (rs : List Rec) (f : Nat → Bool) (i : Nat) (s : St), (∀ q ∈ rs, RecB N0 q) → N0 ≤ s.m.length →
    (∀ j o q, l[j]? = some o → rs[j]? = some q → f (i + j) = true → (∀ x, tgtT d r = some x → tgtT o.dst q ≠ some x) ∧ meets (wrOf r) (wrOf q) = false) →
    comb l rs f i (s.appR d r) = (comb l rs f i s).appR d r
  | [], _, _, _, _, _, _, _ => rfl
  | _ :: _, [], _, _, _, _, _, _ => rfl
  | o :: l, q :: rs, f, i, s, hB, hl, hd => by
    unfold comb
    have hBq := hB q (by simp)
    have hd' : ∀ j o q, l[j]? = some o → rs[j]? = some q → f (i + 1 + j) = true → (∀ x, tgtT d r = some x → tgtT o.dst q ≠ some x) ∧ meets (wrOf r) (wrOf q) = false := fun j o' q' h1 h2 h3 => by
      have := hd (j + 1) o' q' (by simpa using h1) (by simpa using h2) (by rw [show i + (j + 1) = i + 1 + j by omega]; exact h3)
      exact this
    cases hf : f i with
    | false => simp only [Bool.false_eq_true, if_false]; exact comb_app hr l rs f (i + 1) s (fun x hx => hB x (by simp [hx])) hl hd'
    | true =>
      simp only [if_true]
      obtain ⟨h1, h2⟩ := hd 0 o q rfl rfl (by rw [Nat.add_zero]; exact hf)
      rw [app_comm hr hBq hl h1 h2]
      exact comb_app hr l rs f (i + 1) _ (fun x hx => hB x (by simp [hx])) (app_len hBq hl) hd'
/-- one more has come -/
theorem comb_add {N0 : Nat} {k : Nat} {o : Oper} {r : Rec} : ∀ (l : List Oper) (rs : List Rec) (f g : Nat → Bool) (i : Nat) (s : St), (∀ q ∈ rs, RecB N0 q) → N0 ≤ s.m.length → l[k]? = some o → rs[k]? = some r → f (i + k) = false → g (i + k) = true → (∀ j, j ≠ i + k → g j = f j) →
    (∀ j o' q, k < j → l[j]? = some o' → rs[j]? = some q → f (i + j) = true → (∀ x, tgtT o.dst r = some x → tgtT o'.dst q ≠ some x) ∧ meets (wrOf r) (wrOf q) = false) →
    comb l rs g i s = (comb l rs f i s).appR o.dst r := by
  induction k with
  | zero =>
    intro l rs f g i s hB hlen hl hr hf hg hfg hd
    cases l with
    | nil => cases hl
    | cons o1 l =>
      cases rs with
      | nil => cases hr
      | cons r1 rs =>
        simp only [List.getElem?_cons_zero, Option.some.injEq] at hl hr
        subst hl; subst hr
        rw [Nat.add_zero] at *
        unfold comb
        rw [hf, hg]
        simp only [Bool.false_eq_true, if_false, if_true]
        have e1 : comb l rs g (i + 1) (s.appR o1.dst r1) = comb l rs f (i + 1) (s.appR o1.dst r1) := by
          clear hd hf hg
          have gen : ∀ (l : List Oper) (rs : List Rec) (m : Nat) (s : St), i < m → comb l rs g m s = comb l rs f m s := by
            intro l
            induction l with
            | nil => intros; rfl
            | cons o l ih =>
              intro rs m s hm
              cases rs with
              | nil => rfl
              | cons r rs =>
                unfold comb
                rw [hfg m (by omega)]
                exact ih rs (m + 1) _ (by omega)
          exact gen l rs (i + 1) _ (by omega)
        rw [e1]
        exact comb_app (hB r1 (by simp)) l rs f (i + 1) s (fun x hx => hB x (by simp [hx])) hlen fun j o' q h1 h2 h3 => hd (j + 1) o' q (by omega) (by simpa using h1) (by simpa using h2) (by rw [show i + (j + 1) = i + 1 + j by omega]; exact h3)
  | succ k ih =>
    intro l rs f g i s hB hlen hl hr hf hg hfg hd
    cases l with
    | nil => cases hl
    | cons o1 l =>
      cases rs with
      | nil => cases hr
      | cons r1 rs =>
        unfold comb
        rw [hfg i (by omega)]
        refine ih l rs f g (i + 1) _ (fun x hx => hB x (by simp [hx])) ?_ (by simpa using hl) (by simpa using hr) ?_ ?_ (fun j hj => hfg j (by omega)) fun j o' q h0 h1 h2 h3 => hd (j + 1) o' q (by omega) (by simpa using h1) (by simpa using h2) (by rw [show i + (j + 1) = i + 1 + j by omega]; exact h3)
        · split
          · exact app_len (hB r1 (by simp)) hlen
          · exact hlen
        · rw [show i + 1 + k = i + (k + 1) by omega]; exact hf
        · rw [show i + 1 + k = i + (k + 1) by omega]; exact hg
end
end Go.SX

/-
  A symbolic executor: a region that draws its order is as the walk of the text's order shows.
-/
namespace Go.SX
open Go.RowKit

section
variable {E : Env} {P : Program} {rd : Rd} {ops : Array Oper} {Q : Exit → Act → World → Prop} {pre : List (List Nat)} {N0 : Nat}

def slotN (l : List Oper) (n k : Nat) : Nat := n + ((l.take k).filter fun o => isNew o.op).length
theorem comb_none : ∀ (l : List Oper) (rs : List Rec) (f : Nat → Bool) (i : Nat) (s : St), (∀ j, i ≤ j → f j = false) → comb l rs f i s = s
  | [], _, _, _, _, _ => rfl
  | _ :: _, [], _, _, _, _ => rfl
  | o :: l, r :: rs, f, i, s, h => by
    unfold comb
    rw [h i (Nat.le_refl _)]
    exact comb_none l rs f (i + 1) s fun j hj => h j (by omega)
theorem bad_keep {i : Nat} {x : Bad} {r : Rec} {b : Option Bad} (h : badStep i (some x) r = some b) : b = some x := by
  cases r <;> simp [badStep] at h <;> exact h.symm
theorem lexP_bad : ∀ (l : List Oper) (recs : List Rec) (i n : Nat) (x : Bad) (bad' : Option Bad) (s s' : St), LexP rd P ops N0 pre l recs i n (some x) bad' s s' → bad' = some x
  | [], _, _, _, _, _, _, _, h => h.2.1
  | _ :: l, _, _, _, x, bad', _, _, ⟨r, recs', b1, _, _, _, _, hb, h⟩ => by
    have := bad_keep hb
    subst this
    exact lexP_bad l _ _ _ x bad' _ _ h
theorem lexP_get : ∀ (l : List Oper) (recs : List Rec) (i n : Nat) (bad bad' : Option Bad) (s s' : St), LexP rd P ops N0 pre l recs i n bad bad' s s' →
    recs.length = l.length ∧ s' = comb l recs (fun _ => true) i s ∧ (∀ x, bad' = some x → bad = some x ∨ ∃ k, x.1 = i + k ∧ recs[k]? = some (.pan x.2.1 x.2.2)) ∧ (∀ r ∈ recs, RecB N0 r) ∧
    ∀ k o, l[k]? = some o → ∃ r, recs[k]? = some r ∧ RecOk rd P ops N0 (i + k) o (slotN l n k) (comb l recs (fun j => decide (j < i + k)) i s) r ∧
      (r = .never → ∃ x, bad' = some x ∧ x.1 ∈ preOf pre (i + k)) ∧ (∀ v m, r = .pan v m → bad' = some (i + k, v, m))
  | [], recs, i, n, bad, bad', s, s', ⟨h1, h2, h3⟩ => by
    subst h1; subst h2; subst h3
    exact ⟨rfl, rfl, fun x hx => .inl hx, fun r hr => (by cases hr), fun k o h => by simp at h⟩
  | o :: l, _, i, n, bad, bad', s, s', ⟨r, recs, b1, rfl, hnv, hrec, hrb, hb, h⟩ => by
    obtain ⟨h1, h2, h3, hBB, h4⟩ := lexP_get l recs _ _ _ _ _ _ h
    refine ⟨by simp [h1], ?_, ?_, fun q hq => by rcases List.mem_cons.1 hq with rfl | hq; exact hrb; exact hBB q hq, ?_⟩
    · rw [h2]
      exact (by rw [comb, if_pos rfl] : comb (o :: l) (r :: recs) (fun _ => true) i s = comb l recs (fun _ => true) (i + 1) (s.appR o.dst r)).symm
    · intro x hx
      rcases h3 x hx with h5 | ⟨k, h5, h6⟩
      · cases r with
        | ok rc f => simp only [badStep, Option.some.injEq] at hb; subst hb; exact .inl h5
        | never => simp only [badStep, Option.some.injEq] at hb; subst hb; exact .inl h5
        | pan v m =>
          cases bad with
          | none =>
            simp only [badStep, Option.some.injEq] at hb
            subst hb
            cases h5
            exact .inr ⟨0, rfl, rfl⟩
          | some y => simp [badStep] at hb
      · exact .inr ⟨k + 1, by omega, by simpa using h6⟩
    · intro k o' ho'
      cases k with
      | zero =>
        simp only [List.getElem?_cons_zero, Option.some.injEq] at ho'
        subst ho'
        refine ⟨r, rfl, ?_, ?_, ?_⟩
        · rw [Nat.add_zero, comb_none _ _ _ _ _ fun j hj => decide_eq_false (by omega)]
          simpa [slotN] using hrec
        · intro hr
          obtain ⟨j, v, h5, h6⟩ := hnv hr
          subst h5
          have := bad_keep hb
          subst this
          exact ⟨_, lexP_bad _ _ _ _ _ _ _ _ h, h6⟩
        · intro v m hv
          subst hv
          cases bad with
          | none =>
            simp only [badStep, Option.some.injEq] at hb
            subst hb
            exact lexP_bad _ _ _ _ _ _ _ _ h
          | some y => simp [badStep] at hb
      | succ k =>
        obtain ⟨r', h5, h6, h7, h8⟩ := h4 k o' (by simpa using ho')
        have e1 : i + 1 + k = i + (k + 1) := by omega
        refine ⟨r', by simpa using h5, ?_, by rw [← e1]; exact h7, by rw [← e1]; exact h8⟩
        rw [← e1]
        have e2 : comb (o :: l) (r :: recs) (fun j => decide (j < i + 1 + k)) i s = comb l recs (fun j => decide (j < i + 1 + k)) (i + 1) (s.appR o.dst r) := by
          rw [comb, if_pos (decide_eq_true (by omega))]
        have e3 : slotN (o :: l) n (k + 1) = slotN l (if isNew o.op then n + 1 else n) k := by
          unfold slotN
          rw [List.take_succ_cons, List.filter_cons]
          cases isNew o.op <;> simp
          omega
        rw [e2, e3]
        exact h6
theorem preB_get : ∀ (l : List Oper) (i : Nat), preB pre l i = true → ∀ k o, l[k]? = some o → (∀ e ∈ aftersOf o, e < i + k) ∧ ∀ p ∈ preOf pre (i + k), p ∈ aftersOf o ∨ ∃ q ∈ aftersOf o, p ∈ preOf pre q
  | [], _, _, k, o, h => by simp at h
  | o1 :: l, i, hB, k, o, h => by
    unfold preB at hB
    simp only [Bool.and_eq_true] at hB
    obtain ⟨⟨h1, h2⟩, h3⟩ := hB
    cases k with
    | zero =>
      simp only [List.getElem?_cons_zero, Option.some.injEq] at h
      subst h
      refine ⟨fun e he => ?_, fun p hp => ?_⟩
      · simpa using List.all_eq_true.1 h1 e he
      · have := List.all_eq_true.1 h2 p hp
        simp only [Bool.or_eq_true, List.contains_iff_mem, List.any_eq_true] at this
        exact this
    | succ k =>
      have := preB_get l (i + 1) h3 k o (by simpa using h)
      rw [show i + 1 + k = i + (k + 1) by omega] at this
      exact this
theorem pairB_get {o : Oper} {r : Rec} {i : Nat} : ∀ (l : List Oper) (rs : List Rec) (j : Nat), pairB ops pre o r i l rs j = true → ∀ k p q, l[k]? = some p → rs[k]? = some q → clash ops o p r q = true → i ∈ preOf pre (j + k)
  | [], _, _, _, k, p, q, h, _, _ => by simp at h
  | _ :: _, [], _, _, k, p, q, _, h, _ => by simp at h
  | p1 :: l, q1 :: rs, j, hB, k, p, q, hp, hq, hc => by
    unfold pairB at hB
    simp only [Bool.and_eq_true] at hB
    obtain ⟨h1, h2⟩ := hB
    cases k with
    | zero =>
      simp only [List.getElem?_cons_zero, Option.some.injEq] at hp hq
      subst hp; subst hq
      rw [hc] at h1
      simpa using h1
    | succ k =>
      have := pairB_get l rs (j + 1) h2 k p q (by simpa using hp) (by simpa using hq) hc
      rw [show j + 1 + k = j + (k + 1) by omega] at this
      exact this
theorem orderB_get : ∀ (l : List Oper) (rs : List Rec) (i : Nat), orderB ops pre l rs i = true → ∀ k d o r p q, l[k]? = some o → rs[k]? = some r → l[k + 1 + d]? = some p → rs[k + 1 + d]? = some q → clash ops o p r q = true → i + k ∈ preOf pre (i + (k + 1 + d))
  | [], _, _, _, k, d, o, r, p, q, h, _, _, _, _ => by simp at h
  | _ :: _, [], _, _, k, d, o, r, p, q, _, h, _, _, _ => by simp at h
  | o1 :: l, r1 :: rs, i, hB, k, d, o, r, p, q, ho, hr, hp, hq, hc => by
    unfold orderB at hB
    simp only [Bool.and_eq_true] at hB
    obtain ⟨h1, h2⟩ := hB
    cases k with
    | zero =>
      simp only [List.getElem?_cons_zero, Option.some.injEq] at ho hr
      subst ho; subst hr
      have := pairB_get l rs (i + 1) h1 d p q (by simpa [Nat.add_comm] using hp) (by simpa [Nat.add_comm] using hq) hc
      rw [show i + 1 + d = i + (0 + 1 + d) by omega] at this
      exact this
    | succ k =>
      have e : k + 1 + 1 + d = (k + 1 + d) + 1 := by omega
      rw [e] at hp hq
      have := orderB_get l rs (i + 1) h2 k d o r p q (by simpa using ho) (by simpa using hr) (by simpa using hp) (by simpa using hq) hc
      rw [show i + 1 + k = i + (k + 1) by omega, show i + 1 + (k + 1 + d) = i + (k + 1 + 1 + d) by omega] at this
      exact this
theorem slotN_lt {l : List Oper} {n i j : Nat} {o : Oper} (hij : i < j) (ho : l[i]? = some o) (hn : isNew o.op = true) : slotN l n i < slotN l n j := by
  unfold slotN
  have h1 : (l.take (i + 1)).filter (fun o => isNew o.op) = (l.take i).filter (fun o => isNew o.op) ++ [o] := by
    rw [List.take_add_one, ho, List.filter_append]
    simp [hn]
  have h2 : ((l.take (i + 1)).filter (fun o => isNew o.op)).length ≤ ((l.take j).filter (fun o => isNew o.op)).length := by
    apply List.Sublist.length_le
    apply List.Sublist.filter
    have : l.take (i + 1) = (l.take j).take (i + 1) := by rw [List.take_take, Nat.min_eq_left (by omega)]
    rw [this]
    exact List.take_sublist _ _
  rw [h1] at h2
  simp at h2
  omega
theorem cnt_set : ∀ (l : List Bool) (i : Nat), l[i]? = some false → (l.set i true).count false + 1 = l.count false
  | [], i, h => by simp at h
  | b :: l, 0, h => by simp at h; subst h; simp
  | b :: l, i + 1, h => by
    have := cnt_set l i (by simpa using h)
    simp only [List.set_cons_succ, List.count_cons]
    omega

structure Inv (E : Env) (ops : Array Oper) (recs : List Rec) (n0 : Nat) (s0 : St) (ρ : Nat → Option Nat) (fuel : Nat) (listed : Array Bool) (a : Act) (w : World) : Prop where
  size : listed.size = ops.size
  cnt : listed.toList.count false = fuel
  closed : ∀ i o, ops[i]? = some o → listed.getD i false = true → ∀ e ∈ aftersOf o, listed.getD e false = true
  good : ∀ i r, recs[i]? = some r → listed.getD i false = true → ∃ rc ft, r = .ok rc ft
  rep : Rep E ρ (comb ops.toList recs (fun i => listed.getD i false) 0 s0) a w
  slot : ∀ k o r, ops[k]? = some o → recs[k]? = some r → isNew o.op = true → wrOf r ≠ .none → listed.getD k false = false → ρ (slotN ops.toList n0 k) = none

theorem afters_mem {o : Oper} {e : Nat} : e ∈ aftersOf o ↔ ∃ x ∈ o.after, Region.binds .any x = true ∧ x.on = e := by
  unfold aftersOf
  simp only [List.mem_map, List.mem_filter, Array.mem_toList_iff]
  constructor
  · rintro ⟨x, ⟨h1, h2⟩, h3⟩; exact ⟨x, h1, h2, h3⟩
  · rintro ⟨x, h1, h2, h3⟩; exact ⟨x, ⟨h1, h2⟩, h3⟩
theorem ready_iff {i : Nat} {listed : Array Bool} : i ∈ Region.ready .any ops listed ↔ listed.getD i true = false ∧ ∃ o, ops[i]? = some o ∧ ∀ e ∈ aftersOf o, listed.getD e false = true := by
  rw [mem_ready]
  constructor
  · rintro ⟨h0, o, ho, h⟩
    refine ⟨h0, o, ho, fun e he => ?_⟩
    obtain ⟨x, h1, h2, h3⟩ := afters_mem.1 he
    rw [← h3]
    exact h x h1 h2
  · rintro ⟨h0, o, ho, h⟩
    exact ⟨h0, o, ho, fun e he hb => h _ (afters_mem.2 ⟨e, he, hb, rfl⟩)⟩

theorem pre_in (hB : preB pre ops.toList 0 = true) {f : Nat → Bool} (hcl : ∀ i o, ops[i]? = some o → f i = true → ∀ e ∈ aftersOf o, f e = true) :
    ∀ i o, ops[i]? = some o → (∀ e ∈ aftersOf o, f e = true) → ∀ p ∈ preOf pre i, f p = true := by
  intro i
  induction i using Nat.strongRecOn with
  | _ i ih =>
    intro o ho hall p hp
    obtain ⟨h1, h2⟩ := preB_get _ _ hB i o (by simpa using ho)
    rw [Nat.zero_add] at h1 h2
    rcases h2 p hp with h3 | ⟨q, h3, h4⟩
    · exact hall p h3
    · have hq := h1 q h3
      have hlt : i < ops.size := (Array.getElem?_eq_some_iff.1 ho).1
      obtain ⟨oq, hoq⟩ : ∃ oq, ops[q]? = some oq := ⟨ops[q], Array.getElem?_eq_getElem (by omega)⟩
      exact ih q hq oq hoq (hcl q oq hoq (hall q h3)) p h4

theorem clash_tt {o p : Oper} {r q : Rec} {x : Nat} (h1 : tgtT o.dst r = some x) (h2 : x ∈ p.looksAt ops ∨ tgtT p.dst q = some x) : clash ops o p r q = true := by
  unfold clash
  rw [h1]
  rcases h2 with h2 | h2
  · simp [h2]
  · simp [h2]
theorem clash_lt {o p : Oper} {r q : Rec} {x : Nat} (h1 : tgtT p.dst q = some x) (h2 : x ∈ o.looksAt ops) : clash ops o p r q = true := by
  unfold clash
  rw [h1]
  simp [h2]
theorem clash_wf {o p : Oper} {r q : Rec} (h : hits (wrOf r) (footR q) = true) : clash ops o p r q = true := by
  unfold clash
  rw [h]
  simp
theorem clash_fw {o p : Oper} {r q : Rec} (h : hits (wrOf q) (footR r) = true) : clash ops o p r q = true := by
  unfold clash
  rw [h]
  simp
theorem clash_ww {o p : Oper} {r q : Rec} (h : meets (wrOf r) (wrOf q) = true) : clash ops o p r q = true := by
  unfold clash
  rw [h]
  simp
theorem newB_get : ∀ (l : List Oper) (rs : List Rec), newB l rs = true → ∀ k d r p, rs[k]? = some r → isAll r = true → k < l.length → l[k + 1 + d]? = some p → isNew p.op = false
  | [], _, _, k, d, r, p, _, _, h, _ => by simp at h
  | _ :: _, [], _, k, d, r, p, h, _, _, _ => by simp at h
  | o :: l, r1 :: rs, hB, k, d, r, p, hr, ha, hk, hp => by
    unfold newB at hB
    simp only [Bool.and_eq_true] at hB
    obtain ⟨h1, h2⟩ := hB
    cases k with
    | zero =>
      simp only [List.getElem?_cons_zero, Option.some.injEq] at hr
      subst hr
      rw [ha] at h1
      have h3 : l[d]? = some p := by simpa [Nat.add_comm] using hp
      simp only [Bool.not_true, Bool.false_or] at h1
      have := List.all_eq_true.1 h1 p (List.mem_of_getElem? h3)
      simpa using this
    | succ k =>
      have e : k + 1 + 1 + d = (k + 1 + d) + 1 := by omega
      rw [e] at hp
      exact newB_get l rs h2 k d r p (by simpa using hr) ha (by simpa using hk) (by simpa using hp)

theorem any_sound (hE : E.rd = rd) {recs : List Rec} {n0 : Nat} {bad : Option Bad} {s0 s1 : St} (hlex : LexP rd P ops N0 pre ops.toList recs 0 n0 none bad s0 s1) (hO : orderB ops pre ops.toList recs 0 = true) (hNB : newB ops.toList recs = true) (hN0 : N0 ≤ s0.m.length) (hsl : slotN ops.toList n0 ops.size ≤ N0) (hB : preB pre ops.toList 0 = true)
    (hfin : bad = none → ∀ ρ a w, Rep E ρ s1 a w → Q .normal a w)
    (hpan : ∀ x, bad = some x → ∀ f ρ a w, Rep E ρ (match x.2.2 with | none => comb ops.toList recs f 0 s0 | some m' => { comb ops.toList recs f 0 s0 with m := m' }) a w → Q (.panic [{ v := x.2.1, recovered := false }]) a w) :
    ∀ (fuel : Nat) (listed : Array Bool) (ρ : Nat → Option Nat) (a : Act) (w : World), Inv E ops recs n0 s0 ρ fuel listed a w → wpAny P .any ops Q fuel listed a w := by
  obtain ⟨hlen, hs1, hbad, hBB, hget⟩ := lexP_get _ _ _ _ _ _ _ _ hlex
  have done : ∀ fuel listed ρ a w, Inv E ops recs n0 s0 ρ fuel listed a w → Region.ready .any ops listed = [] → Q .normal a w := by
    intro fuel listed ρ a w inv hr
    have all : ∀ i, i < ops.size → listed.getD i false = true := by
      intro i
      induction i using Nat.strongRecOn with
      | _ i ih =>
        intro hi
        cases hl : listed.getD i false with
        | true => rfl
        | false =>
          exfalso
          have hmem : i ∈ Region.ready .any ops listed := by
            rw [ready_iff]
            refine ⟨?_, ops[i], Array.getElem?_eq_getElem hi, fun e he => ?_⟩
            · have : i < listed.size := by rw [inv.size]; exact hi
              simp [this] at hl ⊢
              exact hl
            · have h1 := (preB_get _ _ hB i ops[i] (by simp [hi])).1 e he
              rw [Nat.zero_add] at h1
              exact ih e h1 (by omega)
          rw [hr] at hmem
          cases hmem
    have hnb : bad = none := by
      cases hb : bad with
      | none => rfl
      | some x =>
        exfalso
        rcases hbad x hb with h | ⟨k, h1, h2⟩
        · cases h
        · have hk : k < recs.length := (List.getElem?_eq_some_iff.1 h2).1
          obtain ⟨rc, ft, h3⟩ := inv.good k _ h2 (all k (by rw [hlen] at hk; simpa using hk))
          cases h3
    refine hfin hnb ρ a w ?_
    have hrep := inv.rep
    rw [hs1]
    have : comb ops.toList recs (fun i => listed.getD i false) 0 s0 = comb ops.toList recs (fun _ => true) 0 s0 := by
      have hcong : ∀ (l : List Oper) (rs : List Rec) (i : Nat) (s : St), i + l.length ≤ ops.size → comb l rs (fun i => listed.getD i false) i s = comb l rs (fun _ => true) i s := by
        intro l
        induction l with
        | nil => intros; rfl
        | cons o l ih =>
          intro rs i s hle
          cases rs with
          | nil => rfl
          | cons r rs =>
            simp only [List.length_cons] at hle
            unfold comb
            show comb l rs _ (i + 1) (if listed.getD i false = true then s.appR o.dst r else s) = comb l rs _ (i + 1) (if true = true then s.appR o.dst r else s)
            rw [all i (by omega)]
            exact ih rs (i + 1) _ (by omega)
      exact hcong _ _ 0 s0 (by simp)
    rw [← this]
    exact hrep
  intro fuel
  induction fuel with
  | zero =>
    intro listed ρ a w inv
    have hr : Region.ready .any ops listed = [] := by
      rw [List.eq_nil_iff_forall_not_mem]
      intro i hi
      have h0 := (ready_iff.1 hi).1
      have hc := inv.cnt
      rw [List.count_eq_zero] at hc
      apply hc
      rcases Nat.lt_or_ge i listed.size with hlt | hge
      · simp [hlt] at h0
        rw [← h0]
        simp
      · simp [Array.getElem?_eq_none hge] at h0
    exact ⟨hr, done 0 listed ρ a w inv hr⟩
  | succ fuel ih =>
    intro listed ρ a w inv
    refine ⟨done _ listed ρ a w inv, fun i hi => ?_⟩
    obtain ⟨hun, o, ho, haft⟩ := ready_iff.1 hi
    have hio : i < ops.size := (Array.getElem?_eq_some_iff.1 ho).1
    have hil : i < listed.size := by rw [inv.size]; exact hio
    have hunf : listed.getD i false = false := by simp [hil] at hun ⊢; exact hun
    obtain ⟨r, hr1, hrec, hnv, hpv⟩ := hget i o (by simpa using ho)
    rw [Nat.zero_add] at hrec hnv hpv
    have hpre := pre_in hB inv.closed i o ho haft
    have hpreL : ∀ j p, ops[j]? = some p → listed.getD j false = true → i ∉ preOf pre j := fun j p hp hl hmem => by
      have := pre_in hB inv.closed j p hp (inv.closed j p hp hl) i hmem
      rw [hunf] at this
      cases this
    have before : ∀ j p q, ops[j]? = some p → recs[j]? = some q → j < i → clash ops p o q r = true → listed.getD j false = true := fun j p q hp hq hji hc => by
      obtain ⟨d, rfl⟩ : ∃ d, i = j + 1 + d := ⟨i - j - 1, by omega⟩
      have := orderB_get _ _ _ hO j d p q o r (by simpa using hp) hq (by simpa using ho) hr1 hc
      rw [Nat.zero_add, Nat.zero_add] at this
      exact hpre j this
    have behind : ∀ j p q, ops[j]? = some p → recs[j]? = some q → i < j → clash ops o p r q = true → listed.getD j false = false := fun j p q hp hq hij hc => by
      obtain ⟨d, rfl⟩ : ∃ d, j = i + 1 + d := ⟨j - i - 1, by omega⟩
      have h1 := orderB_get _ _ _ hO i d o r p q (by simpa using ho) hr1 (by simpa using hp) hq hc
      rw [Nat.zero_add, Nat.zero_add] at h1
      cases hl : listed.getD (i + 1 + d) false with
      | false => rfl
      | true => exact absurd h1 (hpreL _ p hp hl)
    have side : ∀ j p q, ops[j]? = some p → recs[j]? = some q → (j < i → clash ops p o q r = true) → (i < j → clash ops o p r q = true) → listed.getD j false = decide (j < i) := fun j p q hp hq h1 h2 => by
      rcases Nat.lt_trichotomy j i with h | h | h
      · rw [before j p q hp hq h (h1 h), decide_eq_true h]
      · subst h; rw [hunf, decide_eq_false (by omega)]
      · rw [behind j p q hp hq h (h2 h), decide_eq_false (by omega)]
    have agree : ∀ foot, FootB N0 foot → (∀ W, hits W foot = true → hits W (footR r) = true) → Agree ops o foot (comb ops.toList recs (fun j => decide (j < i)) 0 s0) (comb ops.toList recs (fun i => listed.getD i false) 0 s0) := fun foot hfb hfoot => by
      refine ⟨fun x hx => ?_, ?_⟩
      · refine (comb_t _ _ _ _ 0 s0 s0 rfl rfl fun j p q hp hq ht => ?_).1
        rw [Nat.zero_add]
        refine side j p q (by simpa using hp) hq (fun _ => ?_) (fun _ => ?_)
        · exact clash_tt ht (.inl hx)
        · exact clash_lt ht hx
      · have hrel : foot.rel (comb ops.toList recs (fun i => listed.getD i false) 0 s0).m (comb ops.toList recs (fun j => decide (j < i)) 0 s0).m := by
          refine comb_m hfb _ _ _ _ 0 s0 s0 hBB hN0 hN0 ?_ fun j p q hp hq ht => ?_
          · cases foot <;> first | exact fun _ _ => rfl | rfl
          · rw [Nat.zero_add]
            exact side j p q (by simpa using hp) hq (fun _ => clash_wf (hfoot _ ht)) (fun _ => clash_fw (hfoot _ ht))
        cases foot <;> exact hrel
    have hBr := hBB r (List.mem_of_getElem? hr1)
    cases r with
    | never =>
      exfalso
      obtain ⟨x, h1, h2⟩ := hnv rfl
      rcases hbad x h1 with h | ⟨k, h3, h4⟩
      · cases h
      · rw [Nat.zero_add] at h3
        have h5 := hpre _ h2
        rw [h3] at h5
        obtain ⟨rc, ft, h6⟩ := inv.good k _ h4 h5
        cases h6
    | pan v m =>
      refine hrec E Q hE _ (agree (footPan m) ?_ (fun _ h => h)) ρ a w _ inv.rep fun ρ' a' w' hr' => ?_
      · cases m
        · exact fun b hb => by cases hb
        · trivial
      · have := hpan _ (hpv v m rfl) (fun i => listed.getD i false) ρ' a' w'
        cases m with
        | none => exact this hr'
        | some m' => exact this hr'
    | ok rc ft =>
      refine hrec E Q hE _ (agree ft hBr.1 (fun _ h => h)) (comb_len _ _ _ _ _ hBB hN0) ρ a w _ inv.rep (fun hn he => inv.slot i o _ ho hr1 hn (fun h => he (by unfold wrOf at h; simp only at h; split at h <;> first | assumption | cases h)) hunf) fun ρ' a' w' hr' hslot => ih _ ρ' a' w' ?_
      have hgetset : ∀ j, (listed.setIfInBounds i true).getD j false = if j = i then true else listed.getD j false := fun j => by
        by_cases hj : j = i
        · subst hj; simp [hil]
        · rw [if_neg hj, getD_set_ne false (Ne.symm hj)]
      refine ⟨by simp [inv.size], ?_, ?_, ?_, ?_, ?_⟩
      · have h1 : listed.toList[i]? = some false := by
          simp [hil] at hunf
          simp [hil, hunf]
        have := cnt_set _ _ h1
        have hc := inv.cnt
        rw [Array.toList_setIfInBounds]
        omega
      · intro j p hp hl e he
        rw [hgetset] at hl ⊢
        split
        · rfl
        · split at hl
          · rename_i hj
            subst hj
            rw [ho] at hp
            cases hp
            exact haft e he
          · exact inv.closed j p hp hl e he
      · intro j q hq hl
        rw [hgetset] at hl
        split at hl
        · rename_i hj
          subst hj
          rw [hr1] at hq
          cases hq
          exact ⟨_, _, rfl⟩
        · exact inv.good j q hq hl
      · have e : comb ops.toList recs (fun j => (listed.setIfInBounds i true).getD j false) 0 s0 = (comb ops.toList recs (fun i => listed.getD i false) 0 s0).appR o.dst (.ok rc ft) := by
          refine comb_add (N0 := N0) (k := i) _ _ _ _ 0 s0 hBB hN0 (by simpa using ho) hr1 (by rw [Nat.zero_add]; exact hunf) (by rw [Nat.zero_add, hgetset, if_pos rfl]) (fun j hj => by rw [Nat.zero_add] at hj; rw [hgetset, if_neg hj]) fun j p q hij hp hq hl => ?_
          rw [Nat.zero_add] at hl
          refine ⟨fun x hx hx2 => ?_, ?_⟩
          · rw [behind j p q (by simpa using hp) hq hij (clash_tt hx (.inr hx2))] at hl
            cases hl
          · cases hm : meets (wrOf (.ok rc ft)) (wrOf q) with
            | false => rfl
            | true =>
              rw [behind j p q (by simpa using hp) hq hij (clash_ww hm)] at hl
              cases hl
        rw [e]
        exact hr'
      · intro k p q hp hq hn hwr hl
        rw [hgetset] at hl
        split at hl
        · cases hl
        · rename_i hki
          have hkz : k < ops.size := (Array.getElem?_eq_some_iff.1 hp).1
          refine hslot (fun m' hall => ?_) _ ?_ (inv.slot k p q hp hq hn hwr hl) fun hno => ?_
          · rcases Nat.lt_or_ge k i with h | h
            · have hm : meets (wrOf q) (wrOf (.ok rc ft)) = true := by
                have e : wrOf (.ok rc ft) = .all := by unfold wrOf; simp only; rw [hall]
                rw [e]
                cases hq2 : wrOf q <;> first | rfl | exact absurd hq2 hwr
              have := before k p q hp hq h (clash_ww hm)
              rw [hl] at this
              cases this
            · obtain ⟨d, rfl⟩ : ∃ d, k = i + 1 + d := ⟨k - i - 1, by omega⟩
              have hisall : isAll (.ok rc ft) = true := by
                show (match rc.eff with | .all _ => true | _ => false) = true
                rw [hall]
              have := newB_get _ _ hNB i d _ p hr1 hisall (by simpa using hio) (by simpa using hp)
              rw [hn] at this
              cases this
          · have h1 : slotN ops.toList n0 k < slotN ops.toList n0 ops.size := slotN_lt hkz (by simpa using hp) hn
            omega
          · rcases Nat.lt_trichotomy k i with h | h | h
            · exact Nat.ne_of_lt (slotN_lt h (by simpa using hp) hn)
            · exact absurd h hki
            · exact Nat.ne_of_gt (slotN_lt h (by simpa using ho) hno)
end
end Go.SX

/-
  A symbolic executor: regions, code.
-/
namespace Go.SX
open Go.RowKit

inductive Nx where
  | ok (s : St)
  | pan (v : SV) (s : St)
def addDead (n : Nat) (m : List Blk) : List Blk := m ++ List.replicate n .dead
def weakM : Rec → List Blk → List Blk
  | .ok r _, m => match r.eff with
    | .none => m
    | .one i _ => m.set i .dead
    | .app bs => m ++ List.replicate bs.length .dead
    | .all m' => List.replicate (m.length + m'.length) .dead
  | _, m => m
/-- what is known whatever has come of the region -/
def weak : List Oper → List Rec → St → St
  | o :: l, r :: rs, s => weak l rs { t := match tgtT o.dst r with | some x => s.t.set x .any | none => s.t, m := weakM r s.m, d := s.d }
  | _, _, s => s

section
variable (P : Program) (rd : Rd) {β : Type}
def sxOne (call : CallK β) (o : Oper) (s : St) (k : Nx → Option β) : Option β :=
  match goCall o (evalS s) with
  | some (f, args) => call f args s.m fun out => match out.e with
    | .ret v => k (.ok (St.put { s with m := out.m } o.dst v))
    | .pan v => k (.pan v { s with m := out.m })
  | none => match goDefer o (evalS s) with
    | some d => k (.ok (St.put { s with d := d :: s.d } o.dst (.val undef)))
    | none => match goPanics o (evalS s) with
      | some v => k (.pan (.val v) s)
      | none => (sxVal P rd o (evalS s) s.m).k fun r => k (.ok (St.put { s with m := r.2 } o.dst r.1))
def sxOps (call : CallK β) (ops : Array Oper) (k : Ex → St → Option β) : List Oper → St → Option β
  | [], s => k .normal s
  | o :: rest, s => s.f fun s =>
    let run := fun (s : St) => sxOne P rd call o s fun nx => match nx with
      | .ok s' => sxOps call ops k rest s'
      | .pan v s' => k (.panic v) s'
    match o.guard with
    | none => run s
    | some (j, want) => match gate ops s j with
      | some (some b) => match want with
        | true => bif b then run (s.refine (gateT ops j) true) else sxOps call ops k rest ((s.refine (gateT ops j) false).put o.dst (.val undef))
        | false => bif b then sxOps call ops k rest ((s.refine (gateT ops j) true).put o.dst (.val undef)) else run (s.refine (gateT ops j) false)
      | some none => sxOps call ops k rest (s.put o.dst (.val undef))
      | none => none
def sxDraw (ic : ICall β) (call : CallK β) (ops : Array Oper) (s : St) (k : Ex → St → Option β) : Option β :=
  let l := ops.toList
  let K := (l.filter fun o => isNew o.op).length
  let s0 : St := { s with m := addDead K s.m }
  preF (mkPre l) fun pre => if preB pre l 0 then
    sxLex P rd ic call ops (s.m.length + K) pre (fun recs bad s1 => if orderB ops pre l recs 0 && newB l recs then match bad with
      | none => k .normal s1
      | some (_, v, none) => k (.panic (.val v)) (weak l recs s0)
      | some (_, v, some m') => k (.panic (.val v)) { weak l recs s0 with m := m' }
      else none) l 0 s.m.length [] none s0
  else none
abbrev CodeK (β : Type) := Code → St → (Ex → St → Option β) → Option β
def sxLoop (rec : CodeK β) (c : Code) (k : Ex → St → Option β) (n : Nat) : St → Option β :=
  Nat.rec (fun _ => none) (fun _ ih s => rec c s fun e s' => match e with
    | .normal => ih s'
    | e => k e s') n
def sxStep (ic : ICall β) (call : CallK β) (rec : CodeK β) : CodeK β := fun c s k =>
  match c with
  | .skip => k .normal s
  | .region _ ops false => sxOps P rd call ops k ops.toList s
  | .region _ ops true => sxDraw P rd ic call ops s k
  | .seq a b => rec a s fun e s' => match e with
    | .normal => rec b s' k
    | e => k e s'
  | .cond c a b => match evalS s c with
    | .val (.bool t) => bif t then rec a (s.refine (condT c) true) k else rec b (s.refine (condT c) false) k
    | _ => none
  | .block id c => rec c s fun e s' => match e with
    | .exit j => if j = id then k .normal s' else k (.exit j) s'
    | e => k e s'
  | .loop c => sxLoop rec c k 64 s
  | .exit id => k (.exit id) s
  | .label _ => k .normal s
  | .ret => k .ret s
  | _ => none
end

section
variable {E : Env} {P : Program} {rd : Rd} {ρ ρ' : Nat → Option Nat} {s s' : St} {a : Act} {w w' : World} {v : SV} {u : Value} {β : Type} {out : β} {Q : Exit → Act → World → Prop}

/-- the program draws mixed orders, and its calls enter -/
structure POk (P : Program) : Prop where
  names : NamesOk P
  mixed : P.follows .mixedOrders = true
def ExQ (ρ : Nat → Option Nat) (Q : Exit → Act → World → Prop) (a : Act) (w : World) : Ex → Prop
  | .normal => Q .normal a w
  | .exit i => Q (.exit i) a w
  | .ret => Q .ret a w
  | .panic v => ∀ u, v.R ρ u → Q (.panic [{ v := u, recovered := false }]) a w
def ExPost (E : Env) (ρ : Nat → Option Nat) (e : Ex) (s' : St) (Q : Exit → Act → World → Prop) : Prop := ∀ ρ' a' w', Le ρ ρ' → Rep E ρ' s' a' w' → ExQ ρ' Q a' w' e
def Runs (P : Program) (rd : Rd) (c : Code) (s : St) (e : Ex) (s' : St) : Prop := ∀ E, E.rd = rd → ∀ ρ a w Q, Rep E ρ s a w → ExPost E ρ e s' Q → c.wp P Q a w
def CodeOk (P : Program) (rd : Rd) (rec : CodeK β) : Prop := ∀ c s k (out : β), rec c s k = some out → ∃ e s', k e s' = some out ∧ Runs P rd c s e s'
theorem ExPost.le {e : Ex} (h : ExPost E ρ e s Q) (hl : Le ρ ρ') : ExPost E ρ' e s Q := fun ρ2 a w hl2 hr => h ρ2 a w (hl.trans hl2) hr

def NxPost (E : Env) (ρ : Nat → Option Nat) (K : Act → World → Prop) (Q : Exit → Act → World → Prop) : Nx → Prop
  | .ok s' => ∀ ρ' a' w', Le ρ ρ' → Rep E ρ' s' a' w' → K a' w'
  | .pan v s' => ∀ ρ' a' w', Le ρ ρ' → Rep E ρ' s' a' w' → ∀ u, v.R ρ' u → Q (.panic [{ v := u, recovered := false }]) a' w'
theorem one_sound {call : CallK β} (hcall : CallOk rd P call) (hN : NamesOk P) {o : Oper} {k : Nx → Option β} (h : sxOne P rd call o s k = some out) :
    ∃ nx, k nx = some out ∧ ∀ E, E.rd = rd → ∀ ρ a w K Q, Rep E ρ s a w → NxPost E ρ K Q nx → o.wp P a w K Q := by
  unfold sxOne at h
  split at h
  · rename_i f args hg
    obtain ⟨hb, o2, h3, hc⟩ := hcall _ _ _ _ _ h
    have main : ∀ nx, (∀ E ρ a w K Q, Rep E ρ s a w → NxPost E ρ K Q nx → ∀ ρ' w', Le ρ ρ' → Mem E ρ' o2.m w' → OutOk ρ' o2 (fun
            | .returned v, w'' => K (a.put o.dst v) w''
            | .panicked chain, w'' => Q (.panic chain) a w''
            | .outgrown, _ => LetsOut Q) w') → ∀ E, E.rd = rd → ∀ ρ a w K Q, Rep E ρ s a w → NxPost E ρ K Q nx → o.wp P a w K Q := by
      intro nx hnx E hE ρ a w K Q hr hpost
      obtain ⟨us, h1, h2⟩ := call_run (P := P) (w := w) hN hr.eval hg hb
      unfold Oper.wp
      rw [h1]
      exact hc E hE ρ w us _ hr.m h2 fun ρ' w' hl hm => hnx E ρ a w K Q hr hpost ρ' w' hl hm
    split at h3
    · rename_i v hv
      refine ⟨_, h3, main _ fun E ρ a w K Q hr hpost ρ' w' hl hm => ?_⟩
      unfold OutOk
      rw [hv]
      intro u hu
      exact hpost ρ' _ _ hl (hr.put hl hu hm _)
    · rename_i v hv
      refine ⟨_, h3, main _ fun E ρ a w K Q hr hpost ρ' w' hl hm => ?_⟩
      unfold OutOk
      rw [hv]
      intro u hu
      exact hpost ρ' _ _ hl (hr.mem hl hm) u hu
  · split at h
    · rename_i d hd
      refine ⟨_, h, fun E _ ρ a w K Q hr hpost => ?_⟩
      obtain ⟨D, h1, h2⟩ := defer_run (P := P) (w := w) hr.eval hd
      unfold Oper.wp
      rw [h1]
      have hr2 : Rep E ρ { s with d := d :: s.d } { a with defers := D :: a.defers } w := ⟨hr.t, ⟨D, _, rfl, h2, hr.d⟩, hr.m⟩
      exact hpost ρ _ _ (Le.refl _) (hr2.skip _)
    · split at h
      · rename_i pv hpv
        refine ⟨_, h, fun E _ ρ a w K Q hr hpost => ?_⟩
        unfold Oper.wp
        rw [panics_run (P := P) (w := w) hr.eval hpv]
        exact hpost ρ _ _ (Le.refl _) hr _ rfl
      · obtain ⟨⟨v, m'⟩, h1, h2⟩ := R3.k_some _ _ _ h
        refine ⟨_, h2, fun E hE ρ a w K Q hr hpost => ?_⟩
        subst hE
        obtain ⟨nx, w', ρ', u, h3, h4, h5, h6, h7⟩ := val_sound (P := P) hr.m hr.eval h1
        unfold Oper.wp
        rw [h3]
        have := hpost ρ' _ _ h7 (hr.put h7 h5 h6 o.dst)
        rcases h4 with rfl | ⟨rfl, rfl⟩
        · exact this
        · exact this

theorem ops_sound {call : CallK β} (hcall : CallOk rd P call) (hN : NamesOk P) {ops : Array Oper} {k : Ex → St → Option β} :
    ∀ (l : List Oper) (s : St), sxOps P rd call ops k l s = some out → ∃ e s', k e s' = some out ∧ ∀ E, E.rd = rd → ∀ ρ a w Q, Rep E ρ s a w → ExPost E ρ e s' Q → wpList P ops Q l a w
  | [], s, h => ⟨.normal, s, h, fun E _ ρ a w Q hr hpost => hpost ρ a w (Le.refl _) hr⟩
  | o :: l, s, h => by
    have ih := ops_sound hcall hN (ops := ops) (k := k) l
    unfold sxOps at h
    rw [St.f_eq] at h
    simp only at h
    have run : (sxOne P rd call o s fun nx => match nx with
      | .ok s' => sxOps P rd call ops k l s'
      | .pan v s' => k (.panic v) s') = some out → ∃ e s', k e s' = some out ∧ ∀ E, E.rd = rd → ∀ ρ a w Q, Rep E ρ s a w → ExPost E ρ e s' Q → o.wp P a w (wpList P ops Q l) Q := fun h => by
      obtain ⟨nx, h1, h2⟩ := one_sound hcall hN h
      cases nx with
      | ok s1 =>
        obtain ⟨e, s', h3, h4⟩ := ih s1 h1
        exact ⟨e, s', h3, fun E hE ρ a w Q hr hpost => h2 E hE ρ a w _ Q hr fun ρ' a' w' hl hr' => h4 E hE ρ' a' w' Q hr' (hpost.le hl)⟩
      | pan v s1 =>
        exact ⟨_, _, h1, fun E hE ρ a w Q hr hpost => h2 E hE ρ a w _ Q hr fun ρ' a' w' hl hr' => hpost ρ' a' w' hl hr'⟩
    have skip : sxOps P rd call ops k l (s.put o.dst (.val undef)) = some out → ∃ e s', k e s' = some out ∧ ∀ E, E.rd = rd → ∀ ρ a w Q, Rep E ρ s a w → ExPost E ρ e s' Q → wpList P ops Q l (a.put o.dst undef) w := fun h => by
      obtain ⟨e, s', h3, h4⟩ := ih _ h
      exact ⟨e, s', h3, fun E hE ρ a w Q hr hpost => h4 E hE ρ _ w Q (hr.skip _) hpost⟩
    split at h
    · rename_i hg
      obtain ⟨e, s', h1, h2⟩ := run h
      refine ⟨e, s', h1, fun E hE ρ a w Q hr hpost => ?_⟩
      unfold wpList
      rw [if_pos (by simp [Region.wanted, hg])]
      exact .inl (h2 E hE ρ a w Q hr hpost)
    · rename_i j want hg
      split at h
      · rename_i b hb
        have hrf := gate_refine hb
        have yes : b = want → (sxOne P rd call o s fun nx => match nx with
            | .ok s' => sxOps P rd call ops k l s'
            | .pan v s' => k (.panic v) s') = some out → ∃ e s', k e s' = some out ∧ ∀ E, E.rd = rd → ∀ ρ a w Q, Rep E ρ s a w → ExPost E ρ e s' Q → wpList P ops Q (o :: l) a w := fun hc h9 => by
          subst hc
          obtain ⟨e, s', h1, h2⟩ := run h9
          refine ⟨e, s', h1, fun E hE ρ a w Q hr hpost => ?_⟩
          have hy := gate_R hr hb
          unfold wpList
          rw [if_pos (by unfold Region.wanted; rw [hg]; simp only; rw [hy]; exact beq_self_eq_true _)]
          exact .inl (h2 E hE ρ a w Q hr hpost)
        have no : ¬ b = want → sxOps P rd call ops k l (s.put o.dst (.val undef)) = some out → ∃ e s', k e s' = some out ∧ ∀ E, E.rd = rd → ∀ ρ a w Q, Rep E ρ s a w → ExPost E ρ e s' Q → wpList P ops Q (o :: l) a w := fun hc h9 => by
          obtain ⟨e, s', h1, h2⟩ := skip h9
          refine ⟨e, s', h1, fun E hE ρ a w Q hr hpost => ?_⟩
          have hy := gate_R hr hb
          unfold wpList
          rw [if_neg (by unfold Region.wanted; rw [hg]; simp only; rw [hy]; intro h; exact hc (Option.some.inj (eq_of_beq h)))]
          exact h2 E hE ρ a w Q hr hpost
        cases want <;> cases b <;> simp only [cond_true, cond_false] at h <;> rw [hrf] at h
        · exact yes rfl h
        · exact no (by simp) h
        · exact no (by simp) h
        · exact yes rfl h
      · rename_i hb
        obtain ⟨e, s', h1, h2⟩ := skip h
        refine ⟨e, s', h1, fun E hE ρ a w Q hr hpost => ?_⟩
        have hy := gate_R hr hb
        unfold wpList
        rw [if_neg (by unfold Region.wanted; rw [hg]; simp only; rw [hy]; intro h; cases h)]
        exact h2 E hE ρ a w Q hr hpost
      · cases h

def Env.at (E : Env) (r : Nat → Option Nat) : Env := { E with ρ0 := r }
theorem Mem.at {m : List Blk} (h : Mem E ρ m w) : Mem (E.at ρ) ρ m w :=
  ⟨h.dom, h.ok, h.lt, h.inj, h.own, ⟨h.kept.os, h.kept.tape, h.kept.output, h.kept.size, h.kept.block⟩, Le.refl _, fun _ _ h => .inl h⟩
theorem Mem.back {m m0 : List Blk} {w0 : World} {r : Nat → Option Nat} (h : Mem (E.at r) ρ m w) (hp : Mem E r m0 w0) : Le r ρ ∧ Mem E ρ m w :=
  ⟨h.pre, ⟨h.dom, h.ok, h.lt, h.inj, h.own, ⟨h.kept.os, h.kept.tape, h.kept.output, h.kept.size, h.kept.block⟩, hp.pre.trans h.pre, fun i x hx => (h.new i x hx).elim (hp.new i x) .inr⟩⟩
theorem Mem.pad {m : List Blk} (h : Mem E ρ m w) (n : Nat) : Mem E ρ (addDead n m) w := by
  have key : ∀ (i : Nat) (b : Blk) (r : Nat), (addDead n m)[i]? = some b → ρ i = some r → m[i]? = some b := fun i b r h1 h2 => by
    unfold addDead at h1
    rw [List.getElem?_append_left (h.dom i r h2)] at h1
    exact h1
  exact ⟨fun i r hi => by unfold addDead; have := h.dom i r hi; simp; omega, fun i b r h1 h2 => h.ok i b r (key i b r h1 h2) h2, h.lt, h.inj, fun i b r h1 h2 => h.own i b r (key i b r h1 h2) h2, h.kept, h.pre, h.new⟩

/-- less is known -/
structure Less (s s' : St) : Prop where
  tl : s'.t.length = s.t.length
  t : ∀ x : Nat, s'.t[x]? = s.t[x]? ∨ s'.t[x]? = some .any
  ml : s.m.length ≤ s'.m.length
  m : ∀ x : Nat, s'.m[x]? = s.m[x]? ∨ s'.m[x]? = some .dead
  d : s'.d = s.d
theorem Less.refl (s : St) : Less s s := ⟨rfl, fun _ => .inl rfl, Nat.le_refl _, fun _ => .inl rfl, rfl⟩
theorem RL_any {ρ : Nat → Option Nat} : ∀ {l l' : List SV} {us : List Value}, SV.RL ρ l us → l'.length = l.length → (∀ x : Nat, l'[x]? = l[x]? ∨ l'[x]? = some .any) → SV.RL ρ l' us
  | [], [], _, h, _, _ => h
  | [], _ :: _, _, _, h, _ => by simp at h
  | _ :: _, [], _, _, h, _ => by simp at h
  | x :: l, y :: l', _, ⟨u, us', h1, h2, h3⟩, hl, hx => by
    refine ⟨u, us', h1, ?_, RL_any h3 (by simpa using hl) fun i => by have := hx (i + 1); simpa using this⟩
    rcases hx 0 with h | h
    · simp at h; rw [h]; exact h2
    · simp at h; rw [h]; trivial
theorem Less.rep {s' : St} (h : Less s s') (hr : Rep E ρ s a w) : Rep E ρ s' a w := by
  obtain ⟨us, h1, h2⟩ := hr.t
  have hm := hr.m
  have key : ∀ (i : Nat) (b : Blk), s'.m[i]? = some b → s.m[i]? = some b ∨ b = .dead := fun i b hb => by
    rcases h.m i with h3 | h3
    · rw [h3] at hb; exact .inl hb
    · rw [h3] at hb; cases hb; exact .inr rfl
  refine ⟨⟨us, h1, RL_any h2 h.tl h.t⟩, by rw [h.d]; exact hr.d, ⟨fun i r hi => Nat.lt_of_lt_of_le (hm.dom i r hi) h.ml, fun i b r h3 h4 o ho => ?_, hm.lt, hm.inj, fun i b r h3 h4 h5 => ?_, hm.kept, hm.pre, hm.new⟩⟩
  · rcases key i b h3 with h6 | rfl
    · exact hm.ok i b r h6 h4 o ho
    · trivial
  · rcases key i b h3 with h6 | rfl
    · exact hm.own i b r h6 h4 h5
    · cases h5
theorem less_m (r : Rec) (d : Option Tmp) {s : St} {m1 : List Blk} (hl : s.m.length ≤ m1.length) (hm : ∀ x : Nat, m1[x]? = s.m[x]? ∨ m1[x]? = some .dead) (b : Bool) :
    (if b then s.appR d r else s).m.length ≤ (weakM r m1).length ∧ ∀ x : Nat, (weakM r m1)[x]? = (if b then s.appR d r else s).m[x]? ∨ (weakM r m1)[x]? = some .dead := by
  have hout : ∀ x, m1.length ≤ x → s.m[x]? = none := fun x hx => List.getElem?_eq_none (by omega)
  have plain : s.m.length ≤ m1.length ∧ ∀ x : Nat, m1[x]? = s.m[x]? ∨ m1[x]? = some .dead := ⟨hl, hm⟩
  cases r with
  | pan v m =>
    have : (if b then s.appR d (.pan v m) else s) = s := by cases b <;> rfl
    rw [this]; exact plain
  | never =>
    have : (if b then s.appR d .never else s) = s := by cases b <;> rfl
    rw [this]; exact plain
  | ok rc f =>
    obtain ⟨v, e⟩ := rc
    have hm2 : (if b then s.appR d (.ok ⟨v, e⟩ f) else s).m = if b then effM e s.m else s.m := by
      cases b
      · rfl
      · simp only [if_true]; rw [app_m']
    rw [hm2]
    cases e with
    | none => cases b <;> exact plain
    | one i bl =>
      refine ⟨by cases b <;> simp [weakM, effM] <;> exact hl, fun x => ?_⟩
      simp only [weakM]
      by_cases hx : i = x
      · subst hx
        by_cases hi : i < m1.length
        · exact .inr (by simp [hi])
        · refine .inl ?_
          rw [List.getElem?_eq_none (by simp; omega), List.getElem?_eq_none]
          cases b
          · simp only [Bool.false_eq_true, if_false]; omega
          · simp [effM]; omega
      · rw [List.getElem?_set_ne hx]
        cases b
        · exact hm x
        · simp only [if_true, effM]
          rw [List.getElem?_set_ne hx]
          exact hm x
    | app bs =>
      refine ⟨by cases b <;> simp [weakM, effM] <;> omega, fun x => ?_⟩
      simp only [weakM]
      rcases Nat.lt_or_ge x m1.length with hx | hx
      · rw [List.getElem?_append_left hx]
        rcases hm x with h1 | h1
        · rcases Nat.lt_or_ge x s.m.length with hy | hy
          · refine .inl (h1.trans ?_)
            cases b
            · rfl
            · simp only [if_true, effM]; rw [List.getElem?_append_left hy]
          · rw [List.getElem?_eq_getElem hx, List.getElem?_eq_none hy] at h1
            cases h1
        · exact .inr h1
      · rw [List.getElem?_append_right hx, List.getElem?_replicate]
        split
        · exact .inr rfl
        · refine .inl ?_
          rw [List.getElem?_eq_none]
          cases b
          · simp only [Bool.false_eq_true, if_false]; omega
          · simp [effM]; omega
    | all m' =>
      refine ⟨by cases b <;> simp [weakM, effM] <;> omega, fun x => ?_⟩
      simp only [weakM, List.getElem?_replicate]
      split
      · exact .inr rfl
      · refine .inl ?_
        rw [List.getElem?_eq_none]
        cases b
        · simp only [Bool.false_eq_true, if_false]; omega
        · simp [effM]; omega
theorem less_comb : ∀ (l : List Oper) (rs : List Rec) (f : Nat → Bool) (i : Nat) (s s1 : St), Less s s1 → Less (comb l rs f i s) (weak l rs s1)
  | [], _, _, _, _, _, h => h
  | _ :: _, [], _, _, _, _, h => h
  | o :: l, r :: rs, f, i, s, s1, h => by
    unfold comb weak
    refine less_comb l rs f (i + 1) _ _ ?_
    have hT : ∀ (d : Option Tmp) (t : List SV), (match tgtT d r with | some x => t.set x .any | none => t).length = t.length := fun d t => by split <;> simp
    have lt : (s.appR o.dst r).t.length = s.t.length := by
      rw [app_t]; cases r <;> cases o.dst <;> simp
    have both : ∀ b : Bool, Less (if b then s.appR o.dst r else s) { t := match tgtT o.dst r with | some x => s1.t.set x .any | none => s1.t, m := weakM r s1.m, d := s1.d } := fun b => by
      obtain ⟨hm1, hm2⟩ := less_m r o.dst h.ml h.m b
      refine ⟨?_, fun x => ?_, hm1, hm2, ?_⟩
      · show (match tgtT o.dst r with | some x => s1.t.set x .any | none => s1.t).length = _
        rw [hT, h.tl]; cases b
        · rfl
        · exact lt.symm
      · show (match tgtT o.dst r with | some x => s1.t.set x .any | none => s1.t)[x]? = _ ∨ (match tgtT o.dst r with | some x => s1.t.set x .any | none => s1.t)[x]? = _
        by_cases ht : tgtT o.dst r = some x
        · rw [ht]
          by_cases hx : x < s1.t.length
          · exact .inr (by simp [hx])
          · have h1 : x ≥ s.t.length := by rw [← h.tl]; omega
            refine .inl ?_
            rw [List.getElem?_eq_none (by simp; omega), List.getElem?_eq_none]
            cases b
            · exact h1
            · simp only [if_true]; rw [lt]; exact h1
        · have e1 : (match tgtT o.dst r with | some x => s1.t.set x .any | none => s1.t)[x]? = s1.t[x]? := by
            cases hh : tgtT o.dst r with
            | none => rfl
            | some y =>
              have : y ≠ x := fun e => ht (by rw [hh, e])
              simp [List.getElem?_set_ne this]
          have e2 := (app_t_other (s := s) ht).1
          rw [nth_eq, nth_eq] at e2
          rw [e1]
          cases b
          · exact h.t x
          · simp only [if_true]; rw [e2]; exact h.t x
      · cases b
        · exact h.d
        · simp only [if_true]; rw [app_d]; exact h.d
    exact both (f i)

theorem getD_replicate_false (m j : Nat) : (Array.replicate m false).getD j false = false := by
  rcases Nat.lt_or_ge j m with h | h
  · simp [h]
  · simp [h]
theorem draw_sound {ic : ICall β} (hic : ICallOk rd P ic) {call : CallK β} (hcall : CallOk rd P call) (hP : POk P) {id : Nat} {ops : Array Oper} {k : Ex → St → Option β} (h : sxDraw P rd ic call ops s k = some out) :
    ∃ e s', k e s' = some out ∧ Runs P rd (.region id ops true) s e s' := by
  unfold sxDraw at h
  rw [preF_eq] at h
  simp only at h
  split at h
  · rename_i hB
    obtain ⟨recs, bad, s1, hlex, hfin⟩ := lex_sound hic hcall hP.names ops.toList 0 s.m.length [] none _ (fun j => by simp) h
    by_cases hO : (orderB ops (mkPre ops.toList) ops.toList recs 0 && newB ops.toList recs) = true
    · replace hfin := (if_pos hO).symm.trans hfin
      rw [Bool.and_eq_true] at hO
      have hlen0 : (addDead (ops.toList.filter fun o => isNew o.op).length s.m).length = s.m.length + (ops.toList.filter fun o => isNew o.op).length := by
        unfold addDead; simp
      have go : ∀ (e : Ex) (s' : St), (bad = none → e = .normal ∧ s' = s1) →
          (∀ x, bad = some x → e = .panic (.val x.2.1) ∧ s' = match x.2.2 with | none => weak ops.toList recs { s with m := addDead (ops.toList.filter fun o => isNew o.op).length s.m } | some m' => { weak ops.toList recs { s with m := addDead (ops.toList.filter fun o => isNew o.op).length s.m } with m := m' }) → Runs P rd (.region id ops true) s e s' := by
        intro e s' hn hp E hE ρ a w Q hr hpost
        refine wp_region_any hP.mixed ?_
        have hr0 : Rep (E.at ρ) ρ { s with m := addDead (ops.toList.filter fun o => isNew o.op).length s.m } a { w with drawn := w.drawn + 1 } := ⟨hr.t, hr.d, ((hr.m.pad _).drawn _).at⟩
        refine any_sound (E := E.at ρ) hE hlex hO.1 hO.2 (by rw [hlen0]; exact Nat.le_refl _) (by unfold slotN; rw [show ops.toList.take ops.size = ops.toList by rw [← Array.length_toList]; exact List.take_length]; exact Nat.le_refl _) hB (fun hb ρ' a' w' hr' => ?_) (fun x hx f ρ' a' w' hr' => ?_) ops.size (Array.replicate ops.size false) ρ a _ ⟨by simp, by simp, ?_, ?_, ?_, ?_⟩
        · obtain ⟨rfl, rfl⟩ := hn hb
          obtain ⟨h1, h2⟩ := hr'.m.back hr.m
          exact hpost ρ' a' w' h1 ⟨hr'.t, hr'.d, h2⟩
        · obtain ⟨j, v, mo⟩ := x
          obtain ⟨rfl, rfl⟩ := hp _ hx
          have hls := less_comb ops.toList recs f 0 _ _ (Less.refl { s with m := addDead (ops.toList.filter fun o => isNew o.op).length s.m })
          cases mo with
          | none =>
            have hr2 := hls.rep hr'
            obtain ⟨h1, h2⟩ := hr2.m.back hr.m
            exact hpost ρ' a' w' h1 ⟨hr2.t, hr2.d, h2⟩ _ rfl
          | some m' =>
            have hls2 : Less { comb ops.toList recs f 0 { s with m := addDead (ops.toList.filter fun o => isNew o.op).length s.m } with m := m' } { weak ops.toList recs { s with m := addDead (ops.toList.filter fun o => isNew o.op).length s.m } with m := m' } :=
              ⟨hls.tl, hls.t, Nat.le_refl _, fun _ => .inl rfl, hls.d⟩
            have hr2 := hls2.rep hr'
            obtain ⟨h1, h2⟩ := hr2.m.back hr.m
            exact hpost ρ' a' w' h1 ⟨hr2.t, hr2.d, h2⟩ _ rfl
        · intro i o _ hl; rw [getD_replicate_false] at hl; cases hl
        · intro i o _ hl; rw [getD_replicate_false] at hl; cases hl
        · rw [comb_none _ _ _ _ _ fun j _ => getD_replicate_false _ _]
          exact hr0
        · intro k o r _ _ _ _ _
          exact hr.m.fresh (by unfold slotN; omega)
      cases bad with
      | none => exact ⟨_, _, hfin, go _ _ (fun _ => ⟨rfl, rfl⟩) (fun x hx => by cases hx)⟩
      | some jv =>
        obtain ⟨j, v, mo⟩ := jv
        cases mo with
        | none => exact ⟨_, _, hfin, go _ _ (fun hx => by cases hx) (fun x hx => by cases hx; exact ⟨rfl, rfl⟩)⟩
        | some m' => exact ⟨_, _, hfin, go _ _ (fun hx => by cases hx) (fun x hx => by cases hx; exact ⟨rfl, rfl⟩)⟩
    · replace hfin := (if_neg hO).symm.trans hfin
      cases hfin
  · cases h

theorem step_sound {ic : ICall β} {call : CallK β} (hic : ICallOk rd P ic) (hcall : CallOk rd P call) (hP : POk P) {rec : CodeK β} (hrec : CodeOk P rd rec) : CodeOk P rd (sxStep P rd ic call rec) := by
  intro c s k out h
  unfold sxStep at h
  split at h
  · exact ⟨_, _, h, fun E _ ρ a w Q hr hpost => wp_skip (hpost ρ a w (Le.refl _) hr)⟩
  · rename_i id ops
    obtain ⟨e, s', h1, h2⟩ := ops_sound hcall hP.names _ _ h
    exact ⟨e, s', h1, fun E hE ρ a w Q hr hpost => wp_region_list (h2 E hE ρ a w Q hr hpost)⟩
  · exact draw_sound hic hcall hP h
  · rename_i x y
    obtain ⟨e1, s1, h1, h2⟩ := hrec _ _ _ _ h
    cases e1 with
    | normal =>
      obtain ⟨e, s', h3, h4⟩ := hrec _ _ _ _ h1
      exact ⟨e, s', h3, fun E hE ρ a w Q hr hpost => wp_seq (h2 E hE ρ a w _ hr fun ρ' a' w' hl hr' => h4 E hE ρ' a' w' Q hr' (hpost.le hl))⟩
    | exit i => exact ⟨_, _, h1, fun E hE ρ a w Q hr hpost => wp_seq (h2 E hE ρ a w _ hr hpost)⟩
    | ret => exact ⟨_, _, h1, fun E hE ρ a w Q hr hpost => wp_seq (h2 E hE ρ a w _ hr hpost)⟩
    | panic v => exact ⟨_, _, h1, fun E hE ρ a w Q hr hpost => wp_seq (h2 E hE ρ a w _ hr hpost)⟩
  · rename_i c x y
    split at h
    · rename_i t ht
      have hc : ∀ E ρ a w, Rep E ρ s a w → a.eval c = .bool t := fun E ρ a w hr => by
        have := hr.eval c
        rw [ht] at this
        exact this
      have hrf := cond_refine ht
      cases t <;> simp only [cond_true, cond_false] at h <;> rw [hrf] at h
      · obtain ⟨e, s', h1, h2⟩ := hrec _ _ _ _ h
        exact ⟨e, s', h1, fun E hE ρ a w Q hr hpost => wp_cond (hc E ρ a w hr) (h2 E hE ρ a w Q hr hpost)⟩
      · obtain ⟨e, s', h1, h2⟩ := hrec _ _ _ _ h
        exact ⟨e, s', h1, fun E hE ρ a w Q hr hpost => wp_cond (hc E ρ a w hr) (h2 E hE ρ a w Q hr hpost)⟩
    · cases h
  · rename_i id x
    obtain ⟨e1, s1, h1, h2⟩ := hrec _ _ _ _ h
    cases e1 with
    | normal => exact ⟨_, _, h1, fun E hE ρ a w Q hr hpost => wp_block (h2 E hE ρ a w _ hr hpost)⟩
    | exit i =>
      simp only at h1
      split at h1
      · rename_i hi
        subst hi
        exact ⟨_, _, h1, fun E hE ρ a w Q hr hpost => wp_block (h2 E hE ρ a w _ hr fun ρ' a' w' hl hr' => by
          show Exit.inBlock i Q (.exit i) a' w'
          simp only [Exit.inBlock, if_true]
          exact hpost ρ' a' w' hl hr')⟩
      · rename_i hi
        exact ⟨_, _, h1, fun E hE ρ a w Q hr hpost => wp_block (h2 E hE ρ a w _ hr fun ρ' a' w' hl hr' => by
          show Exit.inBlock id Q (.exit i) a' w'
          simp only [Exit.inBlock, hi, if_false]
          exact hpost ρ' a' w' hl hr')⟩
    | ret => exact ⟨_, _, h1, fun E hE ρ a w Q hr hpost => wp_block (h2 E hE ρ a w _ hr hpost)⟩
    | panic v => exact ⟨_, _, h1, fun E hE ρ a w Q hr hpost => wp_block (h2 E hE ρ a w _ hr hpost)⟩
  · rename_i x
    have key : ∀ n s, sxLoop rec x k n s = some out → ∃ e s', k e s' = some out ∧ ∀ E, E.rd = rd → ∀ ρ a w Q, Rep E ρ s a w → ExPost E ρ e s' Q → Code.rounds P x Q n a w := by
      intro n
      induction n with
      | zero => intro s h; cases h
      | succ n ih =>
        intro s h
        obtain ⟨e1, s1, h1, h2⟩ := hrec _ _ _ _ h
        cases e1 with
        | normal =>
          obtain ⟨e, s', h3, h4⟩ := ih _ h1
          exact ⟨e, s', h3, fun E hE ρ a w Q hr hpost => h2 E hE ρ a w _ hr fun ρ' a' w' hl hr' => h4 E hE ρ' a' w' Q hr' (hpost.le hl)⟩
        | exit i => exact ⟨_, _, h1, fun E hE ρ a w Q hr hpost => h2 E hE ρ a w _ hr hpost⟩
        | ret => exact ⟨_, _, h1, fun E hE ρ a w Q hr hpost => h2 E hE ρ a w _ hr hpost⟩
        | panic v => exact ⟨_, _, h1, fun E hE ρ a w Q hr hpost => h2 E hE ρ a w _ hr hpost⟩
    obtain ⟨e, s', h1, h2⟩ := key 64 s h
    exact ⟨e, s', h1, fun E hE ρ a w Q hr hpost => wp_loop_rounds 64 (h2 E hE ρ a w Q hr hpost)⟩
  · exact ⟨_, _, h, fun E _ ρ a w Q hr hpost => wp_exit (hpost ρ a w (Le.refl _) hr)⟩
  · exact ⟨_, _, h, fun E _ ρ a w Q hr hpost => wp_label (hpost ρ a w (Le.refl _) hr)⟩
  · exact ⟨_, _, h, fun E _ ρ a w Q hr hpost => wp_ret (hpost ρ a w (Le.refl _) hr)⟩
  · cases h
end
end Go.SX

/-
  A symbolic executor: functions, their results, deferred calls.
-/
namespace Go.SX
open Go.RowKit

def resVal (s : St) (P : Program) (rd : Rd) : ResultVar → Option SV
  | .tmp t => some ((nth s.t t).getD (.val undef))
  | .cell a t => match (sxLoad P rd t ((nth s.t a).getD (.val undef)) s.m) with
      | .ok (v, _) => some v
      | _ => none
/-- the mode of the frame below a deferred call -/
inductive Md where
  | ret
  | pan (v : Value)
  | gone (v : Value)
def isRecover (o : Oper) : Bool :=
  match o.op with
  | .call c => (match c.callee with | .builtin .recover => true | _ => false) && o.guard.isNone
  | _ => false

section
variable (P : Program) (rd : Rd) {β : Type}
def sxResults (s : St) (fn : Func) : Option SV :=
  match allSome (fn.results.toList.map (resVal s P rd)) with
  | some [v] => some v
  | some vs => some (.tup vs)
  | none => none
def Out.join (o : Out) (m : List Blk) : Out :=
  match o.e with
  | .ret v => match v.plain with
    | some u => ⟨.ret (.val u), m⟩
    | none => ⟨.ret (v.shift m.length), m ++ o.m.map (Blk.shift m.length)⟩
  | .pan v => match v.plain with
    | some u => ⟨.pan (.val u), m⟩
    | none => ⟨.pan (v.shift m.length), m ++ o.m.map (Blk.shift m.length)⟩

/-- a region of a deferred function -/
def sxOpsD (call : CallK β) (k : Ex → St → Md → Option β) : List Oper → St → Md → Option β
  | [], s, md => k .normal s md
  | o :: rest, s, md =>
    if isRecover o then match md with
      | .pan v => sxOpsD call k rest (s.put o.dst (.val v)) (.gone v)
      | md => sxOpsD call k rest (s.put o.dst (.val .nilIface)) md
    else match o.guard with
      | none => sxOne P rd call o s fun nx => match nx with
        | .ok s' => sxOpsD call k rest s' md
        | .pan v s' => k (.panic v) s' md
      | some _ => none
def hasRecover : Code → Bool
  | .region _ ops _ => ops.toList.any isRecover
  | .seq a b => hasRecover a || hasRecover b
  | .cond _ a b => hasRecover a || hasRecover b
  | .block _ a => hasRecover a
  | _ => false
abbrev CodeD (β : Type) := Code → St → Md → (Ex → St → Md → Option β) → Option β
def sxStepD (call : CallK β) (rec : CodeK β) (recD : CodeD β) : CodeD β := fun c s md k =>
  if hasRecover c then match c with
    | .region _ ops false => sxOpsD P rd call k ops.toList s md
    | .seq a b => recD a s md fun e s' md' => match e with
      | .normal => recD b s' md' k
      | e => k e s' md'
    | .cond c a b => match evalS s c with
      | .val (.bool t) => bif t then recD a (s.refine (condT c) true) md k else recD b (s.refine (condT c) false) md k
      | _ => none
    | .block id c => recD c s md fun e s' md' => match e with
      | .exit j => if j = id then k .normal s' md' else k (.exit j) s' md'
      | e => k e s' md'
    | _ => none
  else rec c s fun e s' => k e s' md
def settleMd : Md → Md
  | .gone _ => .ret
  | m => m
/-- the deferred calls of a frame, the last one first -/
def sxDefers (recD : CodeD β) (fn : Func) (s0 : St) (kk : Out → Option β) : List SD → List Blk → Md → Option β
  | [], m, .ret => match sxResults P rd { s0 with m := m } fn with
    | some v => kk ⟨.ret v, m⟩
    | none => none
  | [], m, .pan v => kk ⟨.pan (.val v), m⟩
  | [], _, .gone _ => none
  | d :: ds, m, md => match P.funcs[d.f]? with
    | some g => match g.body with
      | some c => recD c ⟨d.args ++ d.caps ++ List.replicate (g.ntmps - (d.args ++ d.caps).length) (.val undef), m, []⟩ md fun e s md' =>
        match s.d, e with
        | [], .normal => (match sxResults P rd s g with | some _ => sxDefers recD fn s0 kk ds s.m (settleMd md') | none => none)
        | [], .ret => (match sxResults P rd s g with | some _ => sxDefers recD fn s0 kk ds s.m (settleMd md') | none => none)
        | [], .panic v => match md', v.plain with
          | .ret, some u => sxDefers recD fn s0 kk ds s.m (.pan u)
          | _, _ => none
        | _, _ => none
      | none => none
    | none => none
def sxEnter (rec : CodeK β) (recD : CodeD β) : CallK β := fun f args m kk =>
  match P.funcs[f]? with
  | some fn => match fn.body with
    | some c => rec c ⟨args ++ List.replicate (fn.ntmps - args.length) (.val undef), m, []⟩ fun e s => match e with
      | .normal => sxDefers P rd recD fn s kk s.d s.m .ret
      | .ret => sxDefers P rd recD fn s kk s.d s.m .ret
      | .panic v => match v.plain with
        | some u => sxDefers P rd recD fn s kk s.d s.m (.pan u)
        | none => none
      | .exit _ => none
    | none => none
  | none => none
/-- a table of contracts on plain values -/
abbrev PCon := FuncId → Option (List Value → R3 Out)
def sxI (g : PCon) (rec : CodeK β) (recD : CodeD β) : ICall β := fun f vs kk =>
  match g f with
  | some h => (h vs).k kk
  | none => sxEnter P rd rec recD f (vs.map .val) [] kk
def sxC (g : PCon) (rec : CodeK β) (recD : CodeD β) : CallK β := fun f args m kk =>
  match SV.plainL args with
  | some vs => sxI P rd g rec recD f vs fun o => kk (o.join m)
  | none => sxEnter P rd rec recD f args m kk
/-- both walks, so many steps deep -/
def sxBoth (g : PCon) (n : Nat) : CodeK β × CodeD β :=
  Nat.rec (fun _ _ _ => none, fun _ _ _ _ => none) (fun _ r => (sxStep P rd (sxI P rd g r.1 r.2) (sxC P rd g r.1 r.2) r.1, sxStepD P rd (sxC P rd g r.1 r.2) r.1 r.2)) n
def sxFun (g : PCon) (n : Nat) : ICall β := fun f vs kk => sxEnter P rd (sxBoth P rd g n).1 (sxBoth P rd g n).2 f (vs.map .val) [] kk
end

section
variable {E : Env} {P : Program} {rd : Rd} {ρ ρ' : Nat → Option Nat} {s s' : St} {a : Act} {w w' : World} {v : SV} {u : Value} {β : Type} {out : β} {Q : Exit → Act → World → Prop}

theorem allSome_cons {α : Type} {o : Option α} {l : List (Option α)} {r : List α} (h : allSome (o :: l) = some r) : ∃ x r', o = some x ∧ allSome l = some r' ∧ r = x :: r' := by
  cases o with
  | none => cases h
  | some x =>
    simp only [allSome, Option.map_eq_some_iff] at h
    obtain ⟨r', h1, h2⟩ := h
    exact ⟨x, r', rfl, h1, h2.symm⟩
theorem load_ok {t : TypeId} {x v : SV} {m m' : List Blk} {u : Value} (hM : Mem E ρ m w) (hx : x.R ρ u) (h : sxLoad P E.rd t x m = .ok (v, m')) :
    ∃ u', (Instr.loadAt t u).run P w = .ok u' w ∧ v.R ρ u' := by
  obtain ⟨u', h1, h2, _⟩ := load_sound (P := P) (v := v) (m' := m') hM.view hx (by rw [h]; rfl)
  exact ⟨u', h1, h2⟩
theorem asAddr_load {t : TypeId} {v u' : Value} (h : (Instr.loadAt t v).run P w = .ok u' w) : (do loadVar t (← asAddr v) : Sem Value).run P w = .ok u' w := by
  unfold Instr.loadAt at h
  cases v with
  | pointer o =>
    cases o with
    | some ad => simpa [Instr.sureAddr, asAddr] using h
    | none => simp [Instr.sureAddr, stuck, Sem.run] at h
  | _ => simp [Instr.sureAddr, stuck, Sem.run] at h
def resSem (tmps : Array Value) : ResultVar → Sem Value
  | .tmp t => pure (tmps.getD t undef)
  | .cell a t => do loadVar t (← asAddr (tmps.getD a undef))
theorem res_run (hr : Rep E ρ s a w) : ∀ (l : List ResultVar) (vs : List SV), allSome (l.map (resVal s P E.rd)) = some vs → ∃ us, (l.mapM (resSem a.tmps)).run P w = .ok us w ∧ SV.RL ρ vs us
  | [], vs, h => by
    simp only [List.map_nil, allSome, Option.some.injEq] at h
    subst h
    exact ⟨[], by simp, rfl⟩
  | r :: l, vs, h => by
    obtain ⟨x, vs', h1, h2, rfl⟩ := allSome_cons h
    obtain ⟨us, h3, h4⟩ := res_run hr l vs' h2
    have key : ∃ u, (resSem a.tmps r).run P w = .ok u w ∧ x.R ρ u := by
      cases r with
      | tmp t =>
        simp only [resVal, Option.some.injEq] at h1
        subst h1
        exact ⟨a.tmps.getD t undef, by simp [resSem], hr.eval (.tmp t)⟩
      | cell p t =>
        simp only [resVal] at h1
        split at h1
        · rename_i v' m' hv
          cases h1
          obtain ⟨u', h5, h6⟩ := load_ok (P := P) hr.m (hr.eval (.tmp p)) hv
          exact ⟨u', asAddr_load h5, h6⟩
        · cases h1
    obtain ⟨u, h5, h6⟩ := key
    refine ⟨u :: us, ?_, ⟨u, us, rfl, h6, h4⟩⟩
    simp only [List.mapM_cons, Sem.run_bind, h5, Result.andThen_ok, h3, Sem.run_pure]
theorem results_run {fn : Func} (hr : Rep E ρ s a w) (h : sxResults P E.rd s fn = some v) : ∃ u, (results fn a.tmps).run P w = .ok u w ∧ v.R ρ u := by
  have hmap : fn.results.mapM (resSem a.tmps) = List.toArray <$> fn.results.toList.mapM (resSem a.tmps) := Array.mapM_eq_mapM_toList
  have hres : (results fn a.tmps) = (do
      let vs ← fn.results.mapM (resSem a.tmps)
      pure (if h : vs.size = 1 then vs[0] else .tuple vs)) := by
    unfold results
    congr 1
  unfold sxResults at h
  cases hs : allSome (fn.results.toList.map (resVal s P E.rd)) with
  | none => rw [hs] at h; cases h
  | some vs =>
    rw [hs] at h
    obtain ⟨us, h1, h2⟩ := res_run hr _ _ hs
    have hrun : (results fn a.tmps).run P w = .ok (if h : us.toArray.size = 1 then us.toArray[0] else .tuple us.toArray) w := by
      rw [hres]
      simp only [Sem.run_bind, hmap, Sem.run_map, h1, Result.andThen_ok, Sem.run_pure]
    cases vs with
    | nil =>
      simp only [Option.some.injEq] at h
      subst h
      rw [SV.RL] at h2
      subst h2
      exact ⟨_, hrun, ⟨[], by simp, rfl⟩⟩
    | cons x l =>
      obtain ⟨u, us', rfl, h3, h4⟩ := h2
      cases l with
      | nil =>
        rw [SV.RL] at h4
        subst h4
        simp only [Option.some.injEq] at h
        subst h
        exact ⟨u, by rw [hrun]; simp, h3⟩
      | cons y l =>
        simp only [Option.some.injEq] at h
        subst h
        obtain ⟨u2, us2, rfl, h5, h6⟩ := h4
        exact ⟨_, hrun, ⟨u :: u2 :: us2, by simp, ⟨u, _, rfl, h3, ⟨u2, us2, rfl, h5, h6⟩⟩⟩⟩


def Md.to : Md → FrameMode
  | .ret => .returning
  | .pan v => .panicking [{ v := v, recovered := false }]
  | .gone v => .panicking [{ v := v, recovered := true }]
def ExQS (ρ : Nat → Option Nat) (Q : Exit → Act → List Frame → World → Prop) (a : Act) (cs : List Frame) (w : World) : Ex → Prop
  | .normal => Q .normal a cs w
  | .exit i => Q (.exit i) a cs w
  | .ret => Q .ret a cs w
  | .panic v => ∀ u, v.R ρ u → Q (.panic [{ v := u, recovered := false }]) a cs w
def PostD (E : Env) (ρ : Nat → Option Nat) (c₀ : Frame) (cs : List Frame) (e : Ex) (s' : St) (md' : Md) (Q : Exit → Act → List Frame → World → Prop) : Prop :=
  ∀ ρ' a' w', Le ρ ρ' → Rep E ρ' s' a' w' → ExQS ρ' Q a' ({ c₀ with mode := md'.to } :: cs) w' e
def RunsD (P : Program) (rd : Rd) (c : Code) (s : St) (md : Md) (e : Ex) (s' : St) (md' : Md) : Prop :=
  ∀ E, E.rd = rd → ∀ ρ a w (c₀ : Frame) (cs : List Frame) Q, c₀.mode = md.to → Rep E ρ s a w → PostD E ρ c₀ cs e s' md' Q → c.wpS P Q a (c₀ :: cs) w
def CodeDOk (P : Program) (rd : Rd) (recD : CodeD β) : Prop := ∀ c s md k (out : β), recD c s md k = some out → ∃ e s' md', k e s' md' = some out ∧ RunsD P rd c s md e s' md'
theorem frame_mode {c : Frame} {u : FrameMode} (h : c.mode = u) : ({ c with mode := u } : Frame) = c := by subst h; rfl
theorem PostD.next {c₀ : Frame} {cs : List Frame} {md1 md' : Md} {e : Ex} {Q : Exit → Act → List Frame → World → Prop} (h : PostD E ρ c₀ cs e s' md' Q) (hl : Le ρ ρ') : PostD E ρ' { c₀ with mode := md1.to } cs e s' md' Q :=
  fun ρ2 a w hl2 hr => h ρ2 a w (hl.trans hl2) hr
def _root_.Go.Exit.inBlockS (id : Nat) (Q : Exit → Act → List Frame → World → Prop) : Exit → Act → List Frame → World → Prop
  | .exit id', a, cs, w => if id' = id then Q .normal a cs w else Q (.exit id') a cs w
  | e, a, cs, w => Q e a cs w
theorem wpS_block {id : Nat} {c : Code} {cs : List Frame} {Q : Exit → Act → List Frame → World → Prop} (h : c.wpS P (Exit.inBlockS id Q) a cs w) : (Code.block id c).wpS P Q a cs w := by
  intro b k hb hro
  obtain ⟨e, a₁, cs₁, w₁, hq, harr⟩ := h b (.inBlock id :: k) hb hro
  cases e with
  | normal => exact ⟨.normal, a₁, cs₁, w₁, hq, .head step_block (Steps.trans harr (.one step_inBlock))⟩
  | exit id' =>
    by_cases hid : id' = id
    · simp only [Exit.inBlockS, hid, if_true] at hq
      exact ⟨.normal, a₁, cs₁, w₁, hq, .head step_block (harr k (by simp [exitTo, hid]))⟩
    · simp only [Exit.inBlockS, hid, if_false] at hq
      refine ⟨.exit id', a₁, cs₁, w₁, hq, fun k' hk => .head step_block (harr k' ?_)⟩
      have : (id == id') = false := by simp; exact fun h => hid h.symm
      simp [exitTo, this, hk]
  | goto l => exact ⟨_, a₁, cs₁, w₁, hq, fun k' hk => .head step_block (harr k' (by simp [gotoIn, hk]))⟩
  | ret => exact ⟨_, a₁, cs₁, w₁, hq, .of_steps (.one step_block) harr⟩
  | panic ch => exact ⟨_, a₁, cs₁, w₁, hq, .of_steps (.one step_block) harr⟩
  | outgrown => exact ⟨_, a₁, cs₁, w₁, hq, .of_steps (b := b) (k := k) (cs := cs₁) (e := .outgrown) (.one step_block) harr⟩

theorem recover_run {o : Oper} (h : isRecover o = true) : o.guard = none ∧ (execOp a.eval o).run P w = .ok .recover w := by
  unfold isRecover at h
  split at h
  · rename_i c hop
    rw [Bool.and_eq_true] at h
    obtain ⟨h1, h2⟩ := h
    refine ⟨by simpa using h2, ?_⟩
    split at h1
    · rename_i hc
      simp [execOp, hop, resolve, hc, invoke, builtin]
    · cases h1
  · cases h
theorem opsD_sound {call : CallK β} (hcall : CallOk rd P call) (hN : NamesOk P) {ops : Array Oper} {k : Ex → St → Md → Option β} :
    ∀ (l : List Oper) (i : Nat) (s : St) (md : Md), (∀ j, l[j]? = ops[i + j]?) → sxOpsD P rd call k l s md = some out → ∃ e s' md', k e s' md' = some out ∧
      ∀ E, E.rd = rd → ∀ ρ a w (c₀ : Frame) (cs : List Frame) Q, c₀.mode = md.to → Rep E ρ s a w → PostD E ρ c₀ cs e s' md' Q → wpOpsS P ops Q (List.range' i l.length) a (c₀ :: cs) w
  | [], i, s, md, _, h => ⟨.normal, s, md, h, fun E _ ρ a w c₀ cs Q hm hr hpost => by
      have := hpost ρ a w (Le.refl _) hr
      rw [frame_mode hm] at this
      exact this⟩
  | o :: l, i, s, md, hl, h => by
    have h0 : ops[i]? = some o := by simpa using (hl 0).symm
    have ih := fun s md => opsD_sound hcall hN (ops := ops) (k := k) l (i + 1) s md (fun j => by have := hl (j + 1); simpa [Nat.add_assoc, Nat.add_comm 1 j] using this)
    unfold sxOpsD at h
    split at h
    · rename_i hrec
      split at h
      · rename_i v
        obtain ⟨e, s', md', h1, h2⟩ := ih _ _ h
        refine ⟨e, s', md', h1, fun E hE ρ a w c₀ cs Q hm hr hpost => ?_⟩
        obtain ⟨hg, hrun⟩ := recover_run (P := P) (a := a) (w := w) hrec
        rw [List.length_cons, List.range'_succ]
        simp only [wpOpsS, h0]
        rw [if_pos (by simp [Region.wanted, hg]), hrun]
        have hD : recoverD (c₀ :: cs) = some (v, { c₀ with mode := (Md.gone v).to } :: cs) := by
          have hm' : c₀.mode = .panicking [{ v := v, recovered := false }] := hm
          simp [recoverD, hm', Md.to]
        simp only [hD]
        exact h2 E hE ρ _ w _ cs Q rfl (hr.put (v := .val v) (m' := s.m) (Le.refl _) rfl hr.m o.dst) (hpost.next (Le.refl _))
      · rename_i md0 hne
        obtain ⟨e, s', md', h1, h2⟩ := ih _ _ h
        refine ⟨e, s', md', h1, fun E hE ρ a w c₀ cs Q hm hr hpost => ?_⟩
        obtain ⟨hg, hrun⟩ := recover_run (P := P) (a := a) (w := w) hrec
        rw [List.length_cons, List.range'_succ]
        simp only [wpOpsS, h0]
        rw [if_pos (by simp [Region.wanted, hg]), hrun]
        have hD : recoverD (c₀ :: cs) = none := by
          cases md with
          | ret => have hm' : c₀.mode = .returning := hm; simp [recoverD, hm']
          | pan v => exact absurd rfl (hne v)
          | gone v => have hm' : c₀.mode = .panicking [{ v := v, recovered := true }] := hm; simp [recoverD, hm']
        simp only [hD]
        exact h2 E hE ρ _ w c₀ cs Q hm (hr.put (v := .val .nilIface) (m' := s.m) (Le.refl _) rfl hr.m o.dst) hpost
    · split at h
      · rename_i hg
        have fin : ∀ nx : Nx, (∀ E, E.rd = rd → ∀ ρ a w K Q, Rep E ρ s a w → NxPost E ρ K Q nx → o.wp P a w K Q) → ∀ E, E.rd = rd → ∀ ρ a w (cs : List Frame) Q, Rep E ρ s a w →
            NxPost E ρ (fun a' w' => wpOpsS P ops Q (List.range' (i + 1) l.length) a' cs w') (fun e a' w' => Q e a' cs w') nx → wpOpsS P ops Q (List.range' i (o :: l).length) a cs w := by
          intro nx h2 E hE ρ a w cs Q hr hpost
          have h3 := h2 E hE ρ a w _ _ hr hpost
          rw [List.length_cons, List.range'_succ]
          simp only [wpOpsS, h0]
          rw [if_pos (by simp [Region.wanted, hg])]
          unfold Oper.wp at h3
          generalize (execOp a.eval o).run P w = r at h3 ⊢
          cases r with
          | halt x w' => exact h3
          | ok n w' => cases n <;> first | exact h3 | exact False.elim h3
        obtain ⟨nx, h1, h2⟩ := one_sound hcall hN h
        cases nx with
        | ok s1 =>
          obtain ⟨e, s', md', h3, h4⟩ := ih s1 md h1
          exact ⟨e, s', md', h3, fun E hE ρ a w c₀ cs Q hm hr hpost => fin _ h2 E hE ρ a w _ Q hr fun ρ' a' w' hl' hr' => h4 E hE ρ' a' w' c₀ cs Q hm hr' fun ρ2 a2 w2 hl2 hr2 => hpost ρ2 a2 w2 (hl'.trans hl2) hr2⟩
        | pan v s1 =>
          refine ⟨_, _, _, h1, fun E hE ρ a w c₀ cs Q hm hr hpost => fin _ h2 E hE ρ a w _ Q hr fun ρ' a' w' hl' hr' => ?_⟩
          have := hpost ρ' a' w' hl' hr'
          rw [frame_mode hm] at this
          exact this
      · cases h
theorem stepD_sound {call : CallK β} (hcall : CallOk rd P call) (hN : NamesOk P) {rec : CodeK β} (hrec : CodeOk P rd rec) {recD : CodeD β} (hrecD : CodeDOk P rd recD) : CodeDOk P rd (sxStepD P rd call rec recD) := by
  intro c s md k out h
  unfold sxStepD at h
  split at h
  · split at h
    · rename_i id ops _
      obtain ⟨e, s', md', h1, h2⟩ := opsD_sound hcall hN (ops := ops) ops.toList 0 s md (fun j => by simp) h
      refine ⟨e, s', md', h1, fun E hE ρ a w c₀ cs Q hm hr hpost => wpS_region ?_⟩
      rw [List.range_eq_range']
      have := h2 E hE ρ a w c₀ cs Q hm hr hpost
      rwa [Array.length_toList] at this
    · rename_i x y _
      obtain ⟨e1, s1, md1, h1, h2⟩ := hrecD _ _ _ _ _ h
      cases e1 with
      | normal =>
        obtain ⟨e, s', md', h3, h4⟩ := hrecD _ _ _ _ _ h1
        exact ⟨e, s', md', h3, fun E hE ρ a w c₀ cs Q hm hr hpost => wpS_seq (h2 E hE ρ a w c₀ cs _ hm hr fun ρ' a' w' hl hr' => h4 E hE ρ' a' w' _ cs Q rfl hr' (hpost.next hl))⟩
      | exit i => exact ⟨_, _, _, h1, fun E hE ρ a w c₀ cs Q hm hr hpost => wpS_seq (h2 E hE ρ a w c₀ cs _ hm hr hpost)⟩
      | ret => exact ⟨_, _, _, h1, fun E hE ρ a w c₀ cs Q hm hr hpost => wpS_seq (h2 E hE ρ a w c₀ cs _ hm hr hpost)⟩
      | panic v => exact ⟨_, _, _, h1, fun E hE ρ a w c₀ cs Q hm hr hpost => wpS_seq (h2 E hE ρ a w c₀ cs _ hm hr hpost)⟩
    · rename_i c x y _
      split at h
      · rename_i t ht
        have hc : ∀ E ρ a w, Rep E ρ s a w → a.eval c = .bool t := fun E ρ a w hr => by
          have := hr.eval c
          rw [ht] at this
          exact this
        have hrf := cond_refine ht
        cases t <;> simp only [cond_true, cond_false] at h <;> rw [hrf] at h
        · obtain ⟨e, s', md', h1, h2⟩ := hrecD _ _ _ _ _ h
          exact ⟨e, s', md', h1, fun E hE ρ a w c₀ cs Q hm hr hpost => wpS_cond (hc E ρ a w hr) (h2 E hE ρ a w c₀ cs Q hm hr hpost)⟩
        · obtain ⟨e, s', md', h1, h2⟩ := hrecD _ _ _ _ _ h
          exact ⟨e, s', md', h1, fun E hE ρ a w c₀ cs Q hm hr hpost => wpS_cond (hc E ρ a w hr) (h2 E hE ρ a w c₀ cs Q hm hr hpost)⟩
      · cases h
    · rename_i id x _
      obtain ⟨e1, s1, md1, h1, h2⟩ := hrecD _ _ _ _ _ h
      cases e1 with
      | normal => exact ⟨_, _, _, h1, fun E hE ρ a w c₀ cs Q hm hr hpost => wpS_block (h2 E hE ρ a w c₀ cs _ hm hr hpost)⟩
      | exit i =>
        simp only at h1
        split at h1
        · rename_i hi
          subst hi
          exact ⟨_, _, _, h1, fun E hE ρ a w c₀ cs Q hm hr hpost => wpS_block (h2 E hE ρ a w c₀ cs _ hm hr fun ρ' a' w' hl hr' => by
            show Exit.inBlockS i Q (.exit i) a' _ w'
            simp only [Exit.inBlockS, if_true]
            exact hpost ρ' a' w' hl hr')⟩
        · rename_i hi
          exact ⟨_, _, _, h1, fun E hE ρ a w c₀ cs Q hm hr hpost => wpS_block (h2 E hE ρ a w c₀ cs _ hm hr fun ρ' a' w' hl hr' => by
            show Exit.inBlockS id Q (.exit i) a' _ w'
            simp only [Exit.inBlockS, hi, if_false]
            exact hpost ρ' a' w' hl hr')⟩
      | ret => exact ⟨_, _, _, h1, fun E hE ρ a w c₀ cs Q hm hr hpost => wpS_block (h2 E hE ρ a w c₀ cs _ hm hr hpost)⟩
      | panic v => exact ⟨_, _, _, h1, fun E hE ρ a w c₀ cs Q hm hr hpost => wpS_block (h2 E hE ρ a w c₀ cs _ hm hr hpost)⟩
    · cases h
  · obtain ⟨e, s', h1, h2⟩ := hrec _ _ _ _ h
    refine ⟨e, s', md, h1, fun E hE ρ a w c₀ cs Q hm hr hpost => wpS_of_wp (h2 E hE ρ a w _ hr fun ρ' a' w' hl hr' => ?_)⟩
    have := hpost ρ' a' w' hl hr'
    rw [frame_mode hm] at this
    cases e <;> exact this

end
end Go.SX

