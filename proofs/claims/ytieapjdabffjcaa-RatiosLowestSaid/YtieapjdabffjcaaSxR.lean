/-
  A symbolic executor: regions that draw their order.
-/
import Derived.Test.YtieapjdabffjcaaSxE
namespace Go.SX
open Go.RowKit

/-- what an operation does to the blocks -/
inductive Eff where
  | none
  | one (i : Nat) (b : Blk)
  | app (bs : List Blk)
  | all (m : List Blk)
def effM : Eff → List Blk → List Blk
  | .none, m => m
  | .one i b, m => m.set i b
  | .app bs, m => m ++ bs
  | .all m', _ => m'
/-- what an operation must see of the blocks -/
inductive Foot where
  | bs (l : List Nat)
  | len
  | all
/-- what an operation leaves -/
structure Rc where
  v : SV
  eff : Eff
def St.app (s : St) (dst : Option Tmp) (r : Rc) : St := St.put { s with m := effM r.eff s.m } dst r.v
/-- what one operation of such a region has come to -/
inductive Rec where
  | ok (r : Rc) (foot : Foot)
  | pan (v : Value) (m : Option (List Blk))
  | never
def St.appR (s : St) (dst : Option Tmp) : Rec → St
  | .ok r _ => s.app dst r
  | _ => s
def footPan : Option (List Blk) → Foot
  | none => .bs []
  | some _ => .all
/-- what an operation sees of the blocks: none, or one -/
def footOf (o : Oper) (ev : Operand → SV) : Option Nat :=
  match o.op with
  | .load _ x => match ev x with
    | .ptr i _ => some i
    | _ => none
  | .lookup _ x _ _ => match ev x with
    | .mp i => some i
    | _ => none
  | .convert _ _ x => match ev x with
    | .sl i _ _ _ => some i
    | _ => none
  | _ => none
def mask : Option Nat → List Blk → List Blk
  | none, _ => []
  | some b, m => List.replicate b .dead ++ [(m[b]?).getD .dead]
def footQ (N0 : Nat) : Option Nat → Foot
  | none => .bs []
  | some b => if b < N0 then .bs [b] else .all
/-- an operation sees the temporaries that it names -/
def evL (l : List Tmp) (s : St) : Operand → SV
  | .tmp t => if l.contains t then evalS s (.tmp t) else .any
  | x => evalS s x

section
variable (P : Program) (rd : Rd) {β : Type}
/-- an operation that makes a block: at the place 'n' -/
def sxMake (o : Oper) (ev : Operand → SV) (n : Nat) : Option Rc :=
  match o.op with
  | .alloc t => match tyZero P t with
    | some v => some ⟨.ptr n 0, .one n (.cells (v.cells.toList.map .val) t true)⟩
    | none => none
  | .box t x => match (ev x).cells with
    | some l => some ⟨.ptr n 0, .one n (.cells l t true)⟩
    | none => none
  | .makeMap _ none => some ⟨.mp n, .one n (.mp [])⟩
  | _ => none
/-- a store -/
def sxPut (o : Oper) (ev : Operand → SV) (m : List Blk) : Option (Rc × Nat) :=
  match o.op with
  | .store t x v => match ev x with
    | .ptr i off => match nth m i with
      | some b => match stBlk P t off (ev v) b with
        | some b' => some (⟨.val undef, .one i b'⟩, i)
        | none => none
      | none => none
    | _ => none
  | _ => none
/-- one operation, not a guard's -/
def sxRec (ic : ICall β) (call : CallK β) (ops : Array Oper) (N0 : Nat) (o : Oper) (n : Nat) (s : St) (k : Rec → Option β) : Option β :=
  let ev := evL (o.looksAt ops) s
  match goCall o ev with
  | some (f, args) => match SV.plainL args with
    | some vs => ic f vs fun out => match out.e with
      | .ret v => match v.plain with
        | some u => k (.ok ⟨.val u, .none⟩ (.bs []))
        | none => k (.ok ⟨v.shift s.m.length, .app (out.m.map (Blk.shift s.m.length))⟩ .len)
      | .pan v => match v.plain with
        | some u => k (.pan u none)
        | none => none
    | none => call f args s.m fun out => if N0 ≤ out.m.length then match out.e with
      | .ret v => k (.ok ⟨v, .all out.m⟩ .all)
      | .pan v => match v.plain with
        | some u => k (.pan u (some out.m))
        | none => none
      else none
  | none => match goDefer o ev, goPanics o ev with
    | none, none =>
      if isNew o.op then match nth s.m n, sxMake P o ev n with
        | some .dead, some r => if n < N0 then k (.ok r (.bs [n])) else none
        | _, _ => none
      else if isStore o.op then match sxPut P o ev s.m with
        | some (r, b) => if b < N0 then k (.ok r (.bs [b])) else none
        | none => none
      else (sxVal P rd o ev (mask (footOf o ev) s.m)).k fun r => k (.ok ⟨r.1, .none⟩ (footQ N0 (footOf o ev)))
    | _, _ => none
def sxGate (ic : ICall β) (call : CallK β) (ops : Array Oper) (N0 : Nat) (o : Oper) (n : Nat) (s : St) (k : St → Rec → Option β) : Option β :=
  match o.guard with
  | none => sxRec P rd ic call ops N0 o n s (k s)
  | some (j, want) => match gate ops s j with
    | some (some b) => match want with
      | true => bif b then sxRec P rd ic call ops N0 o n (s.refine (gateT ops j) true) (k (s.refine (gateT ops j) true)) else k (s.refine (gateT ops j) false) (.ok ⟨.val undef, .none⟩ (.bs []))
      | false => bif b then k (s.refine (gateT ops j) true) (.ok ⟨.val undef, .none⟩ (.bs [])) else sxRec P rd ic call ops N0 o n (s.refine (gateT ops j) false) (k (s.refine (gateT ops j) false))
    | some none => k s (.ok ⟨.val undef, .none⟩ (.bs []))
    | none => none
/-- the operation that panics: its number, the value, the blocks -/
abbrev Bad := Nat × Value × Option (List Blk)
def badStep (i : Nat) (bad : Option Bad) : Rec → Option (Option Bad)
  | .ok _ _ => some bad
  | .pan v m => match bad with
    | none => some (some (i, v, m))
    | some _ => none
  | .never => some bad
/-- the walk of the operations as they stand in the text; 'n': the place of the next block; 'bad': the operation that panics, if one has -/
def sxLex (ic : ICall β) (call : CallK β) (ops : Array Oper) (N0 : Nat) (pre : List (List Nat)) (fin : List Rec → Option Bad → St → Option β) : List Oper → Nat → Nat → List Rec → Option Bad → St → Option β
  | [], _, _, acc, bad, s => fin acc.reverse bad s
  | o :: rest, i, n, acc, bad, s => s.f fun s =>
    let go := fun (s : St) r => match badStep i bad r with
      | some bad' => sxLex ic call ops N0 pre fin rest (i + 1) (if isNew o.op then n + 1 else n) (r :: acc) bad' (s.appR o.dst r)
      | none => none
    match bad with
    | none => sxGate P rd ic call ops N0 o n s go
    | some (j, _) => if ((nth pre i).getD []).contains j then go s .never else sxGate P rd ic call ops N0 o n s go
end

def Foot.same (f : Foot) (m m' : List Blk) : Prop :=
  match f with
  | .bs l => ∀ b ∈ l, m'[b]? = m[b]?
  | .len => m'.length = m.length
  | .all => m' = m
/-- a state that an operation cannot tell from another -/
structure Agree (ops : Array Oper) (o : Oper) (foot : Foot) (s s' : St) : Prop where
  t : ∀ x ∈ o.looksAt ops, nth s'.t x = nth s.t x
  m : foot.same s.m s'.m

section
variable {E : Env} {P : Program} {rd : Rd} {ρ ρ' : Nat → Option Nat} {s s' : St} {a : Act} {w w' : World} {v : SV} {u : Value} {β : Type} {out : β} {ops : Array Oper} {o : Oper} {Q : Exit → Act → World → Prop}

def RecOk (rd : Rd) (P : Program) (ops : Array Oper) (N0 : Nat) (i : Nat) (o : Oper) (n : Nat) (s : St) : Rec → Prop
  | .ok r foot => ∀ (E : Env) (Q : Exit → Act → World → Prop), E.rd = rd → ∀ s', Agree ops o foot s s' → N0 ≤ s'.m.length → ∀ ρ a w (K : Act → World → Prop), Rep E ρ s' a w → (isNew o.op = true → r.eff ≠ .none → ρ n = none) →
      (∀ ρ' a' w', Rep E ρ' (s'.app o.dst r) a' w' → ((∀ m', r.eff ≠ .all m') → ∀ x, x < N0 → ρ x = none → (isNew o.op = true → x ≠ n) → ρ' x = none) → K a' w') → wpOp P ops Q i K a w
  | .pan v m => ∀ (E : Env) (Q : Exit → Act → World → Prop), E.rd = rd → ∀ s', Agree ops o (footPan m) s s' → ∀ ρ a w (K : Act → World → Prop), Rep E ρ s' a w →
      (∀ ρ' a' w', Rep E ρ' (match m with | none => s' | some m' => { s' with m := m' }) a' w' → Q (.panic [{ v := v, recovered := false }]) a' w') → wpOp P ops Q i K a w
  | .never => True
/-- a record's places are among the first N0 -/
def RecB (N0 : Nat) : Rec → Prop
  | .ok r foot => (match foot with | .bs l => ∀ b ∈ l, b < N0 | _ => True) ∧ (match r.eff with | .one i _ => i < N0 | .all m => N0 ≤ m.length | _ => True)
  | _ => True

theorem Agree.ev {foot : Foot} (h : Agree ops o foot s s') : evL (o.looksAt ops) s' = evL (o.looksAt ops) s := by
  funext x
  cases x with
  | tmp t =>
    show (if (o.looksAt ops).contains t then evalS s' (.tmp t) else .any) = if (o.looksAt ops).contains t then evalS s (.tmp t) else .any
    by_cases hc : (o.looksAt ops).contains t = true
    · have := h.t t (by simpa using hc)
      rw [if_pos hc, if_pos hc]
      simp only [evalS, this]
    · rw [if_neg hc, if_neg hc]
  | const v => rfl
  | global g => rfl
  | func f => rfl
theorem evL_R (hr : Rep E ρ s a w) (l : List Tmp) (x : Operand) : (evL l s x).R ρ (a.eval x) := by
  cases x with
  | tmp t =>
    show (if l.contains t then evalS s (.tmp t) else .any).R ρ _
    split
    · exact hr.eval (.tmp t)
    · trivial
  | const v => exact hr.eval (.const v)
  | global g => exact hr.eval (.global g)
  | func f => exact hr.eval (.func f)
theorem View.mask {m : List Blk} (h : View E ρ m w) (foot : Option Nat) : View E ρ (SX.mask foot m) w := by
  refine ⟨fun {i r b} hb hr => ?_, h.kept⟩
  cases foot with
  | none => simp [SX.mask] at hb
  | some f =>
    unfold SX.mask at hb
    rcases Nat.lt_trichotomy i f with hi | hi | hi
    · rw [List.getElem?_append_left (by simpa using hi), List.getElem?_replicate, if_pos hi] at hb
      cases hb
      exact .inl rfl
    · subst hi
      rw [List.getElem?_append_right (by simp)] at hb
      simp at hb
      cases hm : m[i]? with
      | none => rw [hm] at hb; simp at hb; exact .inl hb.symm
      | some b' => rw [hm] at hb; simp at hb; subst hb; exact h.obj hm hr
    · rw [List.getElem?_eq_none (by simp; omega)] at hb
      cases hb
theorem mask_agree {N0 : Nat} {f : Option Nat} (h : Agree ops o (footQ N0 f) s s') : mask f s'.m = mask f s.m := by
  cases f with
  | none => rfl
  | some b =>
    have h1 := h.m
    have e : s'.m[b]? = s.m[b]? := by
      by_cases hb : b < N0
      · have hf : footQ N0 (some b) = .bs [b] := if_pos hb
        rw [hf] at h1
        exact h1 b (by simp)
      · have hf : footQ N0 (some b) = .all := if_neg hb
        rw [hf] at h1
        rw [show s'.m = s.m from h1]
    show List.replicate b Blk.dead ++ [(s'.m[b]?).getD .dead] = List.replicate b Blk.dead ++ [(s.m[b]?).getD .dead]
    rw [e]
theorem wpOp_of_wp {i : Nat} {K : Act → World → Prop} (hi : ops[i]? = some o) (hw : Region.wanted o (yielded ops a.tmps) = true) (h : o.wp P a w K Q) : wpOp P ops Q i K a w := by
  unfold wpOp
  rw [hi]
  simp only
  rw [if_pos hw]
  exact .inl h
theorem wpOp_of_skip {i : Nat} {K : Act → World → Prop} (hi : ops[i]? = some o) (hw : Region.wanted o (yielded ops a.tmps) = false) (h : K (a.put o.dst undef) w) : wpOp P ops Q i K a w := by
  unfold wpOp
  rw [hi]
  simp only
  rw [if_neg (by rw [hw]; exact Bool.false_ne_true)]
  exact h

/-- an operation that is wanted: what its record says -/
theorem rec_sound {ic : ICall β} (hic : ICallOk rd P ic) {call : CallK β} (hcall : CallOk rd P call) (hN : NamesOk P) {N0 i n : Nat} (hi : ops[i]? = some o) {k : Rec → Option β} (h : sxRec P rd ic call ops N0 o n s k = some out)
    (hwant : ∀ s', (∀ x ∈ o.looksAt ops, nth s'.t x = nth s.t x) → ∀ E ρ a w, Rep E ρ s' a w → Region.wanted o (yielded ops a.tmps) = true) :
    ∃ r, k r = some out ∧ r ≠ .never ∧ RecOk rd P ops N0 i o n s r ∧ RecB N0 r := by
  unfold sxRec at h
  simp only at h
  split at h
  · rename_i f args hg
    have notNew : isNew o.op = false := by
      unfold goCall at hg
      split at hg
      · rename_i c hop; rw [hop]; rfl
      · cases hg
    split at h
    · rename_i vs hvs
      obtain ⟨hb, o2, h, hc⟩ := hic _ _ _ _ h
      have key : ∀ (E : Env) (Q : Exit → Act → World → Prop), E.rd = rd → ∀ foot s', Agree ops o foot s s' → ∀ ρ a w (K : Act → World → Prop), Rep E ρ s' a w →
          (∀ w' ρ1 (hrd : rd.Ok w fun _ => False), Mem (Env.iso rd w hrd) ρ1 o2.m w' → OutOk ρ1 o2 (fun
            | .returned v, w'' => K (a.put o.dst v) w''
            | .panicked chain, w'' => Q (.panic chain) a w''
            | .outgrown, _ => LetsOut Q) w') → wpOp P ops Q i K a w := by
        intro E Q hE foot s' hag ρ a w K hr hfin
        subst hE
        refine wpOp_of_wp hi (hwant s' hag.t E ρ a w hr) ?_
        have he := evL_R hr (o.looksAt ops)
        rw [hag.ev] at he
        obtain ⟨us, h1, h2⟩ := call_run (P := P) (w := w) hN he hg hb
        have h3 : us = vs := SV.plainL_R _ _ _ hvs h2
        subst h3
        unfold Oper.wp
        rw [h1]
        exact hc w _ hr.m.kept.read fun ρ1 w' hm1 => hfin w' ρ1 hr.m.kept.read hm1
      split at h
      · rename_i v hv
        split at h
        · rename_i u hu
          refine ⟨_, h, by simp, ?_, ⟨fun b hb => (by cases hb), trivial⟩⟩
          intro E Q hE s' hag _ ρ a w K hr hfree hK
          refine key E Q hE _ s' hag ρ a w K hr fun w' ρ1 hrd hm1 => ?_
          unfold OutOk
          rw [hv]
          intro x hx
          have : x = u := SV.plain_R _ _ _ hu hx
          subst this
          exact hK ρ _ _ (hr.put (v := .val x) (Le.refl _) rfl (hr.m.below hm1.stopIso) o.dst) (fun _ y _ hy _ => hy)
        · rename_i hu
          refine ⟨_, h, by simp, ?_, ⟨trivial, trivial⟩⟩
          intro E Q hE s' hag hN0 ρ a w K hr hfree hK
          refine key E Q hE _ s' hag ρ a w K hr fun w' ρ1 hrd hm1 => ?_
          unfold OutOk
          rw [hv]
          intro x hx
          have hlen : s'.m.length = s.m.length := hag.m
          have hs := hr.m.beside hm1
          have hput := hr.put (v := v.shift s'.m.length) (beside_le hr.m) (shift_R v x hx) hs o.dst
          refine hK (beside ρ ρ1 s'.m.length) _ _ ?_ (fun _ y hy hy2 _ => ?_)
          · rw [hlen] at hput
            unfold St.app effM
            simp only
            rw [hlen]
            exact hput
          · unfold beside
            rw [if_pos (by omega)]
            exact hy2
      · rename_i v hv
        split at h
        · rename_i u hu
          refine ⟨_, h, by simp, ?_, trivial⟩
          intro E Q hE s' hag ρ a w K hr hK
          refine key E Q hE _ s' hag ρ a w K hr fun w' ρ1 hrd hm1 => ?_
          unfold OutOk
          rw [hv]
          intro x hx
          have : x = u := SV.plain_R _ _ _ hu hx
          subst this
          exact hK ρ a w' ⟨hr.t, hr.d, hr.m.below hm1.stopIso⟩
        · cases h
    · obtain ⟨hb, o2, h, hc⟩ := hcall _ _ _ _ _ h
      have key : ∀ (E : Env) (Q : Exit → Act → World → Prop), E.rd = rd → ∀ s', Agree ops o .all s s' → ∀ ρ a w (K : Act → World → Prop), Rep E ρ s' a w →
          (∀ w' ρ', Le ρ ρ' → Mem E ρ' o2.m w' → OutOk ρ' o2 (fun
            | .returned v, w'' => K (a.put o.dst v) w''
            | .panicked chain, w'' => Q (.panic chain) a w''
            | .outgrown, _ => LetsOut Q) w') → wpOp P ops Q i K a w := by
        intro E Q hE s' hag ρ a w K hr hfin
        refine wpOp_of_wp hi (hwant s' hag.t E ρ a w hr) ?_
        have he := evL_R hr (o.looksAt ops)
        rw [hag.ev] at he
        obtain ⟨us, h1, h2⟩ := call_run (P := P) (w := w) hN he hg hb
        unfold Oper.wp
        rw [h1]
        have hm := hr.m
        rw [show s'.m = s.m from hag.m] at hm
        exact hc E hE ρ w us _ hm h2 fun ρ' w' hl hm1 => hfin w' ρ' hl hm1
      split at h
      · rename_i hlen
        split at h
        · rename_i v hv
          refine ⟨_, h, by simp, ?_, ⟨trivial, hlen⟩⟩
          intro E Q hE s' hag hN0 ρ a w K hr hfree hK
          refine key E Q hE s' hag ρ a w K hr fun w' ρ' hl hm1 => ?_
          unfold OutOk
          rw [hv]
          intro x hx
          exact hK ρ' _ _ (hr.put hl hx hm1 o.dst) (fun hall => absurd rfl (hall _))
        · rename_i v hv
          split at h
          · rename_i u hu
            refine ⟨_, h, by simp, ?_, trivial⟩
            intro E Q hE s' hag ρ a w K hr hK
            refine key E Q hE s' hag ρ a w K hr fun w' ρ' hl hm1 => ?_
            unfold OutOk
            rw [hv]
            intro x hx
            have : x = u := SV.plain_R _ _ _ hu hx
            subst this
            exact hK ρ' a w' (hr.mem hl hm1)
          · cases h
      · cases h
  · rename_i hg
    split at h
    · rename_i hd hp
      split at h
      · rename_i hnew
        split at h
        · rename_i r hdead hmk
          split at h
          · rename_i hnN
            have hB : RecB N0 (.ok r (.bs [n])) := by
              refine ⟨fun b hb => (by simp at hb; omega), ?_⟩
              unfold sxMake at hmk
              cases hop : o.op <;> rw [hop] at hmk <;> try (cases hmk; done)
              · simp only at hmk
                split at hmk
                · cases hmk; exact hnN
                · cases hmk
              · simp only at hmk
                split at hmk
                · cases hmk; exact hnN
                · cases hmk
              · rename_i t rs
                cases rs with
                | none => cases hmk; exact hnN
                | some x => cases hmk
            refine ⟨_, h, by simp, ?_, hB⟩
            intro E Q hE s' hag hN0 ρ a w K hr hfree hK
            refine wpOp_of_wp hi (hwant s' hag.t E ρ a w hr) ?_
            have he := evL_R hr (o.looksAt ops)
            rw [hag.ev] at he
            have hlen : n < s'.m.length := by omega
            have make : ∀ (b1 : Blk) (o1 : Obj) (v1 : SV) (u1 : Value), b1.O ρ o1 → v1.R (ext ρ n w.heap.size) u1 → r = ⟨v1, .one n b1⟩ → (execOp a.eval o).run P w = .ok (.value u1) { w with heap := w.heap.push o1 } → o.wp P a w K Q := by
              intro b1 o1 v1 u1 hl hv1 hre hrun
              subst hre
              have hn := hfree hnew (by simp)
              unfold Oper.wp
              rw [hrun]
              refine hK (ext ρ n w.heap.size) _ _ (hr.put (ext_le hn) hv1 (hr.m.newAt hl hn (fun i hi => by simpa [effM] using hi) (fun i b hne h1 _ => ?_) ?_) o.dst) (fun _ x hx0 hx hxn => ?_)
              · simp only [effM] at h1
                rw [List.getElem?_set_ne (Ne.symm hne)] at h1
                exact h1
              · simp [effM, hlen]
              · unfold ext
                rw [if_neg (hxn hnew)]
                exact hx
            unfold sxMake at hmk
            cases hop : o.op <;> rw [hop] at hmk <;> try (cases hmk; done)
            · rename_i t
              simp only at hmk
              split at hmk
              · rename_i z hz
                cases hmk
                refine make (.cells (z.cells.toList.map .val) t true) (.cells z.cells.toList.toArray t) (.ptr n 0) (.pointer (some ⟨w.heap.size, 0, none⟩)) ⟨_, rfl, SV.RL.vals _⟩ ⟨w.heap.size, if_pos rfl, rfl⟩ rfl ?_
                simp only [execOp, hop, Instr.alloc, Sem.run_bind, run_zero hz, Result.andThen_ok, newVar, newRow, newObj, Sem.run, Sem.run_pure]
              · cases hmk
            · rename_i t x
              simp only at hmk
              split at hmk
              · rename_i l hl
                cases hmk
                refine make (.cells l t true) (.cells (a.eval x).cells.toList.toArray t) (.ptr n 0) (.pointer (some ⟨w.heap.size, 0, none⟩)) ⟨_, rfl, atom_R (he x) hl⟩ ⟨w.heap.size, if_pos rfl, rfl⟩ rfl ?_
                simp only [execOp, hop, Instr.box, Sem.run_bind, Result.andThen_ok, newVar, newRow, newObj, Sem.run, Sem.run_pure]
              · cases hmk
            · rename_i t rs
              cases rs with
              | some x => cases hmk
              | none =>
                cases hmk
                refine make (.mp []) (.map #[] 0) (.mp n) (.map (some w.heap.size)) ⟨[], 0, rfl, rfl⟩ ⟨w.heap.size, if_pos rfl, rfl⟩ rfl ?_
                simp [execOp, hop, Instr.makeMap, newObj, Sem.run]
          · cases h
        · cases h
      · rename_i hnew
        have hnew' : isNew o.op = false := by simpa using hnew
        split at h
        · rename_i hst
          split at h
          · rename_i r b hput
            split at h
            · rename_i hbN
              unfold sxPut at hput
              cases hop : o.op <;> rw [hop] at hput <;> try (cases hput; done)
              rename_i t x y
              simp only at hput
              split at hput
              · rename_i j off hx
                rw [nth_eq] at hput
                split at hput
                · rename_i bb hbb
                  split at hput
                  · rename_i b' hb'
                    cases hput
                    refine ⟨_, h, by simp, ?_, ⟨fun q hq => (by simp at hq; omega), hbN⟩⟩
                    intro E Q hE s' hag hN0 ρ a w K hr hfree hK
                    refine wpOp_of_wp hi (hwant s' hag.t E ρ a w hr) ?_
                    have he := evL_R hr (o.looksAt ops)
                    rw [hag.ev] at he
                    have h1 := he x
                    rw [hx] at h1
                    obtain ⟨q, hq, hq2⟩ := h1
                    have hbb' : s'.m[b]? = some bb := (hag.m b (by simp)).trans hbb
                    obtain ⟨w', h2, h3⟩ := stBlk_sound (P := P) hr.m hq hbb' (he y) hb'
                    unfold Oper.wp
                    rw [show (execOp a.eval o).run P w = .ok .skip w' by simp [execOp, hop, hq2, h2]]
                    exact hK ρ _ _ (hr.put (Le.refl _) undef_R h3 o.dst) (fun _ x _ hx _ => hx)
                  · cases hput
                · cases hput
              · cases hput
            · cases h
          · cases h
        · rename_i hst
          have hst' : isStore o.op = false := by simpa using hst
          obtain ⟨⟨v, m'⟩, h1, h2⟩ := R3.k_some _ _ _ h
          have hB : RecB N0 (.ok ⟨v, .none⟩ (footQ N0 (footOf o (evL (o.looksAt ops) s)))) := by
            refine ⟨?_, trivial⟩
            cases footOf o (evL (o.looksAt ops) s) with
            | none => exact fun b hb => by cases hb
            | some q =>
              by_cases hq : q < N0
              · rw [show footQ N0 (some q) = .bs [q] from if_pos hq]
                intro b hb
                rw [List.mem_singleton] at hb
                omega
              · rw [show footQ N0 (some q) = .all from if_neg hq]
                trivial
          refine ⟨_, h2, by simp, ?_, hB⟩
          intro E Q hE s' hag hN0 ρ a w K hr hfree hK
          refine wpOp_of_wp hi (hwant s' hag.t E ρ a w hr) ?_
          have he := evL_R hr (o.looksAt ops)
          rw [hag.ev] at he
          rw [← mask_agree hag] at h1
          subst hE
          obtain ⟨u, h3, h4, _⟩ := val_quiet (P := P) hnew' hst' (hr.m.view.mask _) he h1
          unfold Oper.wp
          rw [h3]
          exact hK ρ _ _ (hr.put (Le.refl _) h4 hr.m o.dst) (fun _ x _ hx _ => hx)
    · cases h
theorem gate_sound {ic : ICall β} (hic : ICallOk rd P ic) {call : CallK β} (hcall : CallOk rd P call) (hN : NamesOk P) {N0 i n : Nat} (hi : ops[i]? = some o) {k : St → Rec → Option β} (h : sxGate P rd ic call ops N0 o n s k = some out) :
    ∃ r, k s r = some out ∧ r ≠ .never ∧ RecOk rd P ops N0 i o n s r ∧ RecB N0 r := by
  unfold sxGate at h
  split at h
  · rename_i hg
    exact rec_sound hic hcall hN hi h fun s' _ E ρ a w _ => by simp [Region.wanted, hg]
  · rename_i j want hg
    have hgate : ∀ s', (∀ x ∈ o.looksAt ops, nth s'.t x = nth s.t x) → gate ops s' j = gate ops s j := fun s' hs' => by
      unfold gate
      cases ht : (ops[j]?).bind (·.dst) with
      | none => rfl
      | some t =>
        simp only
        rw [hs' t (by unfold Oper.looksAt; rw [hg]; simp only; rw [ht]; simp)]
    have skip : ∀ b', gate ops s j = some b' → b' ≠ some want → RecOk rd P ops N0 i o n s (.ok ⟨.val undef, .none⟩ (.bs [])) := fun b' hb' hne E Q hE s' hag _ ρ a w K hr _ hK => by
      have h1 := gate_R hr ((hgate s' hag.t).trans hb')
      refine wpOp_of_skip hi ?_ (hK ρ _ _ (hr.put (v := .val undef) (m' := s'.m) (Le.refl _) rfl hr.m o.dst) (fun _ x _ hx _ => hx))
      unfold Region.wanted
      rw [hg]
      simp only
      rw [h1]
      exact beq_eq_false_iff_ne.2 hne
    split at h
    · rename_i b hb
      have hrf := gate_refine hb
      have run : ∀ b', b' = want → gate ops s j = some (some b') → sxRec P rd ic call ops N0 o n s (k s) = some out → ∃ r, k s r = some out ∧ r ≠ .never ∧ RecOk rd P ops N0 i o n s r ∧ RecB N0 r := fun b' hb' hgb hrun => by
        subst hb'
        refine rec_sound hic hcall hN hi hrun fun s' hs' E ρ a w hr => ?_
        have h1 := gate_R hr ((hgate s' hs').trans hgb)
        unfold Region.wanted
        rw [hg]
        simp only
        rw [h1]
        exact beq_self_eq_true _
      cases want <;> cases b <;> simp only [cond_true, cond_false] at h <;> rw [hrf] at h
      · exact run false rfl hb h
      · exact ⟨_, h, by simp, skip _ hb (fun e => by cases e), ⟨fun b hb => (by cases hb), trivial⟩⟩
      · exact ⟨_, h, by simp, skip _ hb (fun e => by cases e), ⟨fun b hb => (by cases hb), trivial⟩⟩
      · exact run true rfl hb h
    · rename_i hb
      exact ⟨_, h, by simp, skip _ hb (fun e => by cases e), ⟨fun b hb => (by cases hb), trivial⟩⟩
    · cases h

/-- the records of the walk as the text has it -/
def LexP (rd : Rd) (P : Program) (ops : Array Oper) (N0 : Nat) (pre : List (List Nat)) : List Oper → List Rec → Nat → Nat → Option Bad → Option Bad → St → St → Prop
  | [], recs, _, _, bad, bad', s, s' => recs = [] ∧ bad' = bad ∧ s' = s
  | o :: l, recs, i, n, bad, bad', s, s' => ∃ r recs' b1, recs = r :: recs' ∧ (r = .never → ∃ j v, bad = some (j, v) ∧ j ∈ (nth pre i).getD []) ∧ RecOk rd P ops N0 i o n s r ∧ RecB N0 r ∧
      badStep i bad r = some b1 ∧ LexP rd P ops N0 pre l recs' (i + 1) (if isNew o.op then n + 1 else n) b1 bad' (s.appR o.dst r) s'
theorem lex_sound {ic : ICall β} (hic : ICallOk rd P ic) {call : CallK β} (hcall : CallOk rd P call) (hN : NamesOk P) {N0 : Nat} {pre : List (List Nat)} {fin : List Rec → Option Bad → St → Option β} : ∀ (l : List Oper) (i n : Nat) (acc : List Rec) (bad : Option Bad) (s : St),
    (∀ j, l[j]? = ops[i + j]?) → sxLex P rd ic call ops N0 pre fin l i n acc bad s = some out → ∃ recs bad' s', LexP rd P ops N0 pre l recs i n bad bad' s s' ∧ fin (acc.reverse ++ recs) bad' s' = some out
  | [], i, n, acc, bad, s, hl, h => ⟨[], bad, s, ⟨rfl, rfl, rfl⟩, by simpa [sxLex] using h⟩
  | o :: l, i, n, acc, bad, s, hl, h => by
    have h0 : ops[i]? = some o := by simpa using (hl 0).symm
    have hl' : ∀ j, l[j]? = ops[i + 1 + j]? := fun j => by have := hl (j + 1); simpa [Nat.add_assoc, Nat.add_comm 1 j] using this
    unfold sxLex at h
    rw [St.f_eq] at h
    simp only at h
    have fini : ∀ r, (match badStep i bad r with
      | some bad' => sxLex P rd ic call ops N0 pre fin l (i + 1) (if isNew o.op then n + 1 else n) (r :: acc) bad' (s.appR o.dst r)
      | none => none) = some out → (r = .never → ∃ j v, bad = some (j, v) ∧ j ∈ (nth pre i).getD []) → RecOk rd P ops N0 i o n s r → RecB N0 r →
        ∃ recs bad' s', LexP rd P ops N0 pre (o :: l) recs i n bad bad' s s' ∧ fin (acc.reverse ++ recs) bad' s' = some out := fun r hr hnv hrec hrb => by
      split at hr
      · rename_i b1 hb1
        obtain ⟨recs, bad', s', h1, h2⟩ := lex_sound hic hcall hN l _ _ _ _ _ hl' hr
        exact ⟨r :: recs, bad', s', ⟨r, recs, b1, rfl, hnv, hrec, hrb, hb1, h1⟩, by simpa using h2⟩
      · cases hr
    split at h
    · obtain ⟨r, h1, h2, h3, h4⟩ := gate_sound hic hcall hN h0 h
      exact fini r h1 (fun e => absurd e h2) h3 h4
    · rename_i j v
      split at h
      · rename_i hc
        exact fini .never h (fun _ => ⟨j, v, rfl, by simpa using hc⟩) trivial trivial
      · obtain ⟨r, h1, h2, h3, h4⟩ := gate_sound hic hcall hN h0 h
        exact fini r h1 (fun e => absurd e h2) h3 h4

end
end Go.SX
