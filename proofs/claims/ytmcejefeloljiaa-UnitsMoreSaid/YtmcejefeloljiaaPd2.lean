/-
  A symbolic executor: regions that draw their order.
-/
import Derived.Test.YtmcejefeloljiaaPd1
import Derived.Recover
import Derived.Test.YtmcejefeloljiaaRows
import Derived.WalkKit
import Derived.WalkSpells
import Derived.WalkLawsBesides
import Derived.Deep.QuietTactic
import Derived.BigQuiet
import Derived.Lib.Hide
import Derived.StillTailTactics
import Derived.Deep.RegionWith
import Derived.Deep.RegionHeld3
import Derived.Deep.RegionLaw
namespace Go.SX
open Go.RowKit

/-- what an operation does to the blocks -/
inductive Eff where
  | none
  | one (i : Nat) (b : Blk)
  | app (bs : List Blk)
  | kap (i : Nat) (b : Blk)
  | all (m : List Blk)
def effM : Eff → List Blk → List Blk
  | .none, m => m
  | .one i b, m => m.set i b
  | .app bs, m => m ++ bs
  | .kap i b, m => m.set i .dead ++ [b]
  | .all m', _ => m'
/-- what an operation must see of the blocks -/
inductive Foot where
  | bs (l : List Nat)
  | len
  | lb (i : Nat)
  | all
/-- what an operation leaves -/
structure Rc where
  v : SV
  eff : Eff
def St.app (s : St) (dst : Option Tmp) (r : Rc) : St := St.put { s with m := effM r.eff s.m } dst r.v
/-- what one operation of such a region has come to -/
inductive Rec where
  | ok (r : Rc) (foot : Foot)
  | pan (v : Value) (m : Option (List Blk))
  | never
def St.appR (s : St) (dst : Option Tmp) : Rec → St
  | .ok r _ => s.app dst r
  | _ => s
def footPan : Option (List Blk) → Foot
  | none => .bs []
  | some _ => .all
/-- what an operation sees of the blocks: none, or one -/
def footOf (o : Oper) (ev : Operand → SV) : Option Nat :=
  match o.op with
  | .load _ x => match ev x with
    | .ptr i _ => some i
    | .wpt i _ _ _ => some i
    | _ => none
  | .lookup _ x _ _ => match ev x with
    | .mp i => some i
    | _ => none
  | .indexAddr _ x _ => match ev x with
    | .vec i => some i
    | _ => none
  | .call c => match c.callee, c.args.toList with
    | .builtin .len, [x] => match ev x with
      | .vec i => some i
      | _ => none
    | _, _ => none
  | .convert _ _ x => match ev x with
    | .sl i _ _ _ => some i
    | _ => none
  | _ => none
def mask : Option Nat → List Blk → List Blk
  | none, _ => []
  | some b, m => List.replicate b .dead ++ [(m[b]?).getD .dead]
def footQ (N0 : Nat) : Option Nat → Foot
  | none => .bs []
  | some b => if b < N0 then .bs [b] else .all
/-- an operation sees the temporaries that it names -/
def evL (l : List Tmp) (s : St) : Operand → SV
  | .tmp t => if l.contains t then evalS s (.tmp t) else .any
  | x => evalS s x

section
variable (P : Program) (rd : Rd) {β : Type}
/-- an operation that makes a block: at the place 'n' -/
def isBuild : Op → Bool
  | .buildSlice .. => true
  | _ => false
def sxMake (o : Oper) (ev : Operand → SV) (n : Nat) : Option Rc :=
  match o.op with
  | .alloc t => match tyZero P t with
    | some v => some ⟨.ptr n 0, .one n (.cells (v.cells.toList.map .val) t true)⟩
    | none => none
  | .box t x => match (ev x).cells with
    | some l => some ⟨.ptr n 0, .one n (.cells l t true)⟩
    | none => none
  | .makeMap t none => some ⟨.mp n, .one n (newMap P t)⟩
  | .buildSlice t k parts => match sxBuildSlice P t k (parts.toList.map (·.1)) (allSome (parts.toList.map fun p => (ev p.2).cells)) [] with
    | .ok (.sl _ _ _ _, [.cells l e true]) => some ⟨.sl n 0 k k, .one n (.cells l e true)⟩
    | _ => none
  | _ => none
/-- a store -/
def sxPut (o : Oper) (ev : Operand → SV) (m : List Blk) : Option (Rc × Nat) :=
  match o.op with
  | .store t x v => match ev x with
    | .ptr i off => match nth m i with
      | some b => match stBlk P t off (ev v) b with
        | some b' => some (⟨.val undef, .one i b'⟩, i)
        | none => none
      | none => none
    | _ => none
  | _ => none
/-- a list of ours that nobody writes, from its making on -/
def stillS (n : Nat) (l : List SV) (e : TypeId) (k : Nat) : Option Rc :=
  match tyOf P 12 e with
  | some ty => match parseT (.sl ty) (List.replicate n .dead ++ [.cells l e false]) [.sl n 0 k k] with
    | some (x, []) => some ⟨.dsl ty x, .one n (.cells l e false)⟩
    | _ => none
  | none => none
/-- a list that is handed to a call of the same region is one that nobody writes -/
def handed (ops : Array Oper) (o : Oper) : Bool :=
  match o.dst with
  | some t => ops.toList.any fun q => match q.op with
    | .call c => match c.callee with
      | .builtin .append => match c.args.toList with
        | [_, .tmp t'] => t' == t
        | _ => false
      | .builtin _ => false
      | _ => c.args.toList.any fun x => match x with
        | .tmp t' => t' == t
        | _ => false
    | _ => false
  | none => false
/-- the same, in a region -/
def sxMakeH (ops : Array Oper) (o : Oper) (ev : Operand → SV) (n : Nat) : Option Rc :=
  match sxMake P o ev n with
  | some ⟨.sl n' 0 k k', .one n'' (.cells l e true)⟩ => match handed ops o && isBuild o.op with
    | true => match stillS P n l e k with
      | some r => some r
      | none => some ⟨.sl n' 0 k k', .one n'' (.cells l e true)⟩
    | false => some ⟨.sl n' 0 k k', .one n'' (.cells l e true)⟩
  | r => r
/-- the head of an append: its elements, its block -/
def headR (t : Ty) (m : List Blk) : SV → Option (List t.den × Option Nat)
  | .vec i => match nth m i with
    | some (.vec t' l _) => if h : t' = t then some (h ▸ l, some i) else none
    | _ => none
  | .val (.slice none n c) => if n = 0 ∧ c = 0 then some ([], none) else none
  | .sl i 0 n c => match nth m i with
    | some (.cells cs _ true) => if n = c ∧ cs.length = n * t.size then match parseN (parseT t []) n cs with
      | some (l, []) => some (l, some i)
      | _ => none
      else none
    | _ => none
  | _ => none
def headNo : SV → List Blk → List Blk
  | .vec i, m => mask (some i) m
  | .sl i _ _ _, m => mask (some i) m
  | _, _ => []
/-- what is appended stands still -/
def stillY : SV → Bool
  | .dsl _ _ => true
  | .val _ => true
  | _ => false
def footK (N0 : Nat) : Option Nat → Foot
  | none => .len
  | some b => if b < N0 then .lb b else .all
/-- an append -/
def sxAppR (ts : List TypeId) (N0 : Nat) (x y : SV) (m : List Blk) : R3 Rec :=
  match ts with
  | [t1, t2] => if t1 = t2 then match P.underlying t1 with
    | some (.slice e) => match tyOf P 12 e, tySize P e, tyBytes P e, tyZero P e with
      | some t, some (sz + 1), some by_, some z => if sz + 1 = t.size ∧ by_ ≤ 1048576 ∧ z.cells.size = sz + 1 ∧ stillY y = true then
        match headR t (headNo x m) x, partS t [] y with
        | some (l, o), some l' => .need (decide (l.length + l'.length ≤ 1048576)) (.ok (match o with
          | some i => .ok ⟨.vec m.length, .kap i (.vec t (l ++ l') (headW (headNo x m) x))⟩ (footK N0 (some i))
          | none => .ok ⟨.vec m.length, .app [.vec t (l ++ l')]⟩ .len))
        | _, _ => .no
        else .no
      | _, _, _, _ => .no
    | _ => .no
    else .no
  | _ => .no
def appArgs (o : Oper) : Option (List TypeId × Operand × Operand) :=
  match o.op with
  | .call c => match c.callee, c.args.toList with
    | .builtin .append, [x, y] => some (c.argTypes.toList, x, y)
    | _, _ => none
  | _ => none
/-- one operation, not a guard's -/
def sxRec (ic : ICall β) (call : CallK β) (ops : Array Oper) (N0 : Nat) (o : Oper) (n : Nat) (s : St) (k : Rec → Option β) : Option β :=
  let ev := evL (o.looksAt ops) s
  match goCall o ev with
  | some (f, args) => match SV.deepL args with
    | true => ic f args fun out => match out.e with
      | .ret v => match v.deep with
        | true => k (.ok ⟨v, .none⟩ (.bs []))
        | false => k (.ok ⟨v.shift s.m.length, .app (out.m.map (Blk.shift s.m.length))⟩ .len)
      | .pan v => match v.plain with
        | some u => k (.pan u none)
        | none => none
    | false => call f args s.m fun out => if N0 ≤ out.m.length then match out.e with
      | .ret v => k (.ok ⟨v, .all out.m⟩ .all)
      | .pan v => match v.plain with
        | some u => k (.pan u (some out.m))
        | none => none
      else none
  | none => match goDefer o ev, goPanics o ev with
    | none, none =>
      if isNew o.op then match appArgs o with
        | some (ts, x, y) => (sxAppR P ts N0 (ev x) (ev y) s.m).k k
        | none => match nth s.m n, sxMakeH P ops o ev n with
          | some .dead, some r => if n < N0 then k (.ok r (.bs [n])) else none
          | _, _ => none
      else if isStore o.op then match sxPut P o ev s.m with
        | some (r, b) => if b < N0 then k (.ok r (.bs [b])) else none
        | none => none
      else (sxVal P rd o ev (mask (footOf o ev) s.m)).k fun r => k (.ok ⟨r.1, .none⟩ (footQ N0 (footOf o ev)))
    | _, _ => none
def sxGate (ic : ICall β) (call : CallK β) (ops : Array Oper) (N0 : Nat) (o : Oper) (n : Nat) (s : St) (k : St → Rec → Option β) : Option β :=
  match o.guard with
  | none => sxRec P rd ic call ops N0 o n s (k s)
  | some (j, want) => match gate ops s j with
    | some (some b) => match want with
      | true => bif b then sxRec P rd ic call ops N0 o n (s.refine (gateT ops j) true) (k (s.refine (gateT ops j) true)) else k (s.refine (gateT ops j) false) (.ok ⟨.val undef, .none⟩ (.bs []))
      | false => bif b then k (s.refine (gateT ops j) true) (.ok ⟨.val undef, .none⟩ (.bs [])) else sxRec P rd ic call ops N0 o n (s.refine (gateT ops j) false) (k (s.refine (gateT ops j) false))
    | some none => k s (.ok ⟨.val undef, .none⟩ (.bs []))
    | none => none
/-- the operation that panics: its number, the value, the blocks -/
abbrev Bad := Nat × Value × Option (List Blk)
def badStep (i : Nat) (bad : Option Bad) : Rec → Option (Option Bad)
  | .ok _ _ => some bad
  | .pan v m => match bad with
    | none => some (some (i, v, m))
    | some _ => none
  | .never => some bad
/-- the walk of the operations az they stand in the text; 'n': the place of the next block; 'bad': the operation that panics, if one has -/
def sxLex (ic : ICall β) (call : CallK β) (ops : Array Oper) (N0 : Nat) (pre : List (List Nat)) (fin : List Rec → Option Bad → St → Option β) : List Oper → Nat → Nat → List Rec → Option Bad → St → Option β
  | [], _, _, acc, bad, s => fin acc.reverse bad s
  | o :: rest, i, n, acc, bad, s => s.f fun s =>
    let go := fun (s : St) r => match badStep i bad r with
      | some bad' => sxLex ic call ops N0 pre fin rest (i + 1) (if isNew o.op then n + 1 else n) (r :: acc) bad' (s.appR o.dst r)
      | none => none
    match bad with
    | none => sxGate P rd ic call ops N0 o n s go
    | some (j, _) => if ((nth pre i).getD []).contains j then go s .never else sxGate P rd ic call ops N0 o n s go
end

def Foot.same (f : Foot) (m m' : List Blk) : Prop :=
  match f with
  | .bs l => ∀ b ∈ l, m'[b]? = m[b]?
  | .len => m'.length = m.length
  | .lb i => m'.length = m.length ∧ m'[i]? = m[i]?
  | .all => m' = m
/-- a state that an operation cannot tell from another -/
structure Agree (ops : Array Oper) (o : Oper) (foot : Foot) (s s' : St) : Prop where
  t : ∀ x ∈ o.looksAt ops, nth s'.t x = nth s.t x
  m : foot.same s.m s'.m

section
variable {E : Env} {P : Program} {rd : Rd} {ρ ρ' : Ctx} {s s' : St} {a : Act} {w w' : World} {v : SV} {u : Value} {β : Type} {out : β} {ops : Array Oper} {o : Oper} {Q : Exit → Act → World → Prop}

def RecOk (rd : Rd) (P : Program) (ops : Array Oper) (N0 : Nat) (i : Nat) (o : Oper) (n : Nat) (s : St) : Rec → Prop
  | .ok r foot => ∀ (E : Env) (Q : Exit → Act → World → Prop), E.rd = rd → ∀ s', Agree ops o foot s s' → N0 ≤ s'.m.length → ∀ ρ a w (K : Act → World → Prop), Rep E ρ s' a w → (isNew o.op = true → r.eff ≠ .none → ρ.b n = none) →
      (∀ ρ' a' w', Rep E ρ' (s'.app o.dst r) a' w' → ((∀ m', r.eff ≠ .all m') → ∀ x, x < N0 → ρ.b x = none → (isNew o.op = true → x ≠ n) → ρ'.b x = none) → K a' w') → wpOp P ops Q i K a w
  | .pan v m => ∀ (E : Env) (Q : Exit → Act → World → Prop), E.rd = rd → ∀ s', Agree ops o (footPan m) s s' → ∀ ρ a w (K : Act → World → Prop), Rep E ρ s' a w →
      (∀ ρ' a' w', Rep E ρ' (match m with | none => s' | some m' => { s' with m := m' }) a' w' → Q (.panic [{ v := v, recovered := false }]) a' w') → wpOp P ops Q i K a w
  | .never => True
/-- a record's places are among the first N0 -/
def RecB (N0 : Nat) : Rec → Prop
  | .ok r foot => (match foot with | .bs l => ∀ b ∈ l, b < N0 | .lb i => i < N0 | _ => True) ∧ (match r.eff with | .one i _ => i < N0 | .all m => N0 ≤ m.length | _ => True)
  | _ => True

theorem Agree.ev {foot : Foot} (h : Agree ops o foot s s') : evL (o.looksAt ops) s' = evL (o.looksAt ops) s := by
  funext x
  cases x with
  | tmp t =>
    show (if (o.looksAt ops).contains t then evalS s' (.tmp t) else .any) = if (o.looksAt ops).contains t then evalS s (.tmp t) else .any
    by_cases hc : (o.looksAt ops).contains t = true
    · have := h.t t (by simpa using hc)
      rw [if_pos hc, if_pos hc]
      simp only [evalS, this]
    · rw [if_neg hc, if_neg hc]
  | const v => rfl
  | global g => rfl
  | func f => rfl
theorem evL_R (hr : Rep E ρ s a w) (l : List Tmp) (x : Operand) : (evL l s x).R ρ (a.eval x) := by
  cases x with
  | tmp t =>
    show (if l.contains t then evalS s (.tmp t) else .any).R ρ _
    split
    · exact hr.eval (.tmp t)
    · trivial
  | const v => exact hr.eval (.const v)
  | global g => exact hr.eval (.global g)
  | func f => exact hr.eval (.func f)
theorem View.mask {m : List Blk} (h : View E ρ m w) (foot : Option Nat) : View E ρ (SX.mask foot m) w := by
  have key : ∀ (i : Nat) (b : Blk), (SX.mask foot m)[i]? = some b → b = .dead ∨ m[i]? = some b := fun i b hb => by
    cases foot with
    | none => simp [SX.mask] at hb
    | some f =>
      unfold SX.mask at hb
      rcases Nat.lt_trichotomy i f with hi | hi | hi
      · rw [List.getElem?_append_left (by simpa using hi), List.getElem?_replicate, if_pos hi] at hb
        cases hb
        exact .inl rfl
      · subst hi
        rw [List.getElem?_append_right (by simp)] at hb
        simp at hb
        cases hm : m[i]? with
        | none => rw [hm] at hb; simp at hb; exact .inl hb.symm
        | some b' => rw [hm] at hb; simp at hb; subst hb; exact .inr rfl
      · rw [List.getElem?_eq_none (by simp; omega)] at hb
        cases hb
  refine ⟨fun {i r b} hb hr => ?_, h.kept, h.zok, fun i t l u h1 h2 => ?_, fun i t l b u h1 h2 => ?_, fun i t l b r n c h1 h2 => ?_⟩
  · rcases key i b hb with h1 | h1
    · exact .inl h1
    · exact h.obj h1 hr
  · rcases key i _ h1 with h3 | h3
    · cases h3
    · exact h.vec i t l u h3 h2
  · rcases key i _ h1 with h3 | h3
    · cases h3
    · exact h.vlen i t l b u h3 h2
  · rcases key i _ h1 with h3 | h3
    · cases h3
    · exact h.elem i t l b r n c h3 h2
theorem mask_agree {N0 : Nat} {f : Option Nat} (h : Agree ops o (footQ N0 f) s s') : mask f s'.m = mask f s.m := by
  cases f with
  | none => rfl
  | some b =>
    have h1 := h.m
    have e : s'.m[b]? = s.m[b]? := by
      by_cases hb : b < N0
      · have hf : footQ N0 (some b) = .bs [b] := if_pos hb
        rw [hf] at h1
        exact h1 b (by simp)
      · have hf : footQ N0 (some b) = .all := if_neg hb
        rw [hf] at h1
        rw [show s'.m = s.m from h1]
    show List.replicate b Blk.dead ++ [(s'.m[b]?).getD .dead] = List.replicate b Blk.dead ++ [(s.m[b]?).getD .dead]
    rw [e]
theorem wpOp_of_wp {i : Nat} {K : Act → World → Prop} (hi : ops[i]? = some o) (hw : Region.wanted o (yielded ops a.tmps) = true) (h : o.wp P a w K Q) : wpOp P ops Q i K a w := by
  unfold wpOp
  rw [hi]
  simp only
  rw [if_pos hw]
  exact .inl h
theorem wpOp_of_skip {i : Nat} {K : Act → World → Prop} (hi : ops[i]? = some o) (hw : Region.wanted o (yielded ops a.tmps) = false) (h : K (a.put o.dst undef) w) : wpOp P ops Q i K a w := by
  unfold wpOp
  rw [hi]
  simp only
  rw [if_neg (by rw [hw]; exact Bool.false_ne_true)]
  exact h

theorem sxMakeH_cases {ev : Operand → SV} {n : Nat} {r : Rc} (h : sxMakeH P ops o ev n = some r) : sxMake P o ev n = some r ∨
    ∃ n1 n2 k k2 l e, isBuild o.op = true ∧ sxMake P o ev n = some ⟨.sl n1 0 k k2, .one n2 (.cells l e true)⟩ ∧ stillS P n l e k = some r := by
  unfold sxMakeH at h
  split at h
  · rename_i n1 k k2 n2 l e hs
    split at h
    · rename_i hh
      rw [Bool.and_eq_true] at hh
      split at h
      · rename_i r' hr
        cases h
        exact .inr ⟨n1, n2, k, k2, l, e, hh.2, hs, hr⟩
      · cases h
        exact .inl hs
    · cases h
      exact .inl hs
  · exact .inl h
theorem parseS_nil {t : Ty} {f f' : List SV → Option (t.den × List SV)} {m : List Blk} {v : SV} {xs : List t.den} (h : parseS t f [] v = some xs) : parseS t f' m v = some xs := by
  cases v with
  | dsl t' l => exact h
  | vec i => cases h
  | val u => cases u <;> first | exact h | (rename_i a n c; cases a <;> exact h)
  | sl i off n c => cases h
  | emp => cases h; rfl
  | _ => cases h
theorem parseT_nil {m : List Blk} : ∀ (t : Ty) (l : List SV) (r : t.den × List SV), parseT t [] l = some r → parseT t m l = some r
  | .int _, _, _, h => h
  | .str, _, _, h => h
  | .bool, _, _, h => h
  | .unit, _, _, h => h
  | .pair a b, l, r, h => by
    unfold parseT at h ⊢
    cases h1 : parseT a [] l with
    | none => rw [h1] at h; cases h
    | some p =>
      rw [h1] at h
      rw [parseT_nil a l p h1]
      simp only at h ⊢
      cases h2 : parseT b [] p.2 with
      | none => rw [h2] at h; cases h
      | some q => rw [h2] at h; rw [parseT_nil b p.2 q h2]; exact h
  | .sl t, l, r, h => by
    cases l with
    | nil => cases h
    | cons v l =>
      unfold parseT at h ⊢
      simp only at h ⊢
      cases h1 : parseS t (parseT t []) [] v with
      | none => rw [h1] at h; cases h
      | some xs => rw [h1] at h; rw [parseS_nil h1]; exact h
theorem parseN_nil {α : Type} {f g : List SV → Option (α × List SV)} (hf : ∀ l r, f l = some r → g l = some r) : ∀ (n : Nat) (l : List SV) (r : List α × List SV), parseN f n l = some r → parseN g n l = some r
  | 0, _, _, h => h
  | n + 1, l, r, h => by
    unfold parseN at h ⊢
    cases h1 : f l with
    | none => rw [h1] at h; cases h
    | some p =>
      rw [h1] at h
      rw [hf l p h1]
      simp only at h ⊢
      cases h2 : parseN f n p.2 with
      | none => rw [h2] at h; cases h
      | some q => rw [h2] at h; rw [parseN_nil hf n p.2 q h2]; exact h
theorem headR_some {t : Ty} {m0 m : List Blk} {v : SV} {l : List t.den} {i : Nat} (h : headR t m0 v = some (l, some i)) (hm : ∀ b, b ≠ .dead → nth m0 i = some b → nth m i = some b) : headS t m v = some (l, m.set i .dead) := by
  unfold headR at h
  split at h
  · rename_i j
    split at h
    · rename_i t' l' h1
      split at h
      · rename_i e
        cases h
        unfold headS
        simp only
        rw [hm _ (by simp) h1]
        simp only
        rw [dif_pos e]
      · cases h
    · cases h
  · split at h <;> cases h
  · rename_i j n c
    split at h
    · rename_i cs ty h1
      split at h
      · rename_i hc
        split at h
        · rename_i l' hp
          cases h
          unfold headS
          simp only
          rw [hm _ (by simp) h1]
          simp only
          rw [if_pos hc, parseN_nil (fun l r => parseT_nil t l r) _ _ _ hp]
        · cases h
      · cases h
    · cases h
  · cases h
theorem headR_none {t : Ty} {m0 m : List Blk} {v : SV} {l : List t.den} (h : headR t m0 v = some (l, none)) : headS t m v = some (l, m) := by
  unfold headR at h
  split at h
  · split at h
    · split at h <;> cases h
    · cases h
  · rename_i n c
    split at h
    · rename_i hc
      cases h
      unfold headS
      simp only
      rw [if_pos hc]
    · cases h
  · split at h
    · split at h
      · split at h <;> cases h
      · cases h
    · cases h
  · cases h
theorem headW_some {t : Ty} {m0 m : List Blk} {v : SV} {l : List t.den} {i : Nat} (h : headR t m0 v = some (l, some i)) (hm : ∀ b, b ≠ .dead → nth m0 i = some b → nth m i = some b) : headW m v = headW m0 v := by
  unfold headR at h
  split at h
  · rename_i j
    split at h
    · rename_i t' l' b h1
      split at h
      · cases h
        unfold headW
        simp only
        rw [hm _ (by simp) h1, h1]
      · cases h
    · cases h
  · split at h <;> cases h
  · rename_i j n c
    cases n <;> rfl
  · cases h
theorem headW_none {t : Ty} {m0 m : List Blk} {v : SV} {l : List t.den} (h : headR t m0 v = some (l, none)) : headW m v = false := by
  unfold headR at h
  split at h
  · split at h
    · split at h <;> cases h
    · cases h
  · rfl
  · split at h
    · split at h
      · split at h <;> cases h
      · cases h
    · cases h
  · cases h
theorem partS_still {t : Ty} {m : List Blk} {y : SV} {l : List t.den} (hy : stillY y = true) (h : partS t [] y = some l) : partS t m y = some l := by
  cases y with
  | dsl t' l' => exact parseS_nil (f := parseT t []) (f' := parseT t m) (m := m) (v := .dsl t' l') h
  | val u => exact parseS_nil (f := parseT t []) (f' := parseT t m) (m := m) (v := .val u) h
  | _ => cases hy
theorem mask_nth {i : Nat} {m : List Blk} {b : Blk} (hb : b ≠ .dead) (h : nth (mask (some i) m) i = some b) : nth m i = some b := by
  rw [nth_eq] at h ⊢
  unfold mask at h
  rw [List.getElem?_append_right (by simp)] at h
  simp only [List.length_replicate, Nat.sub_self, List.getElem?_cons_zero, Option.some.injEq] at h
  cases h1 : m[i]? with
  | none => rw [h1] at h; exact absurd h.symm hb
  | some b' => rw [h1] at h; simpa using h
theorem appArgs_run {o : Oper} {ts : List TypeId} {x y : Operand} (h : appArgs o = some (ts, x, y)) {a : Act} {w w' : World} {u' : Value} (hr : (Builtin.append_ ts.toArray o.type #[a.eval x, a.eval y]).run P w = .ok u' w') : (execOp a.eval o).run P w = .ok (.value u') w' := by
  unfold appArgs at h
  split at h
  · rename_i c hop
    split at h
    · rename_i x' y' hcal hargs
      cases h
      have ha : c.args = #[x, y] := by
        rw [← Array.toList_inj]
        simpa using hargs
      simp only [Array.toArray_toList] at hr
      simp [execOp, hop, resolve, hcal, ha, invoke, builtin, hr]
    · cases h
  · cases h
/-- what an append in a region comes to -/
theorem appR_sound {ts : List TypeId} {N0 : Nat} {x y : SV} {m : List Blk} {r : Rec} (h : (sxAppR P ts N0 x y m).res = some r) :
    ∃ v eff foot, r = .ok ⟨v, eff⟩ foot ∧ RecB N0 r ∧ (∀ m', eff ≠ .all m') ∧ eff ≠ .none ∧ ∀ (E : Env) (ρ : Ctx) (m2 : List Blk) (w : World) (u1 u2 : Value) (ty : TypeId), foot.same m m2 → Mem E ρ m2 w → x.R ρ u1 → y.R ρ u2 →
      ∃ u' w' ρ', (Builtin.append_ ts.toArray ty #[u1, u2]).run P w = .ok u' w' ∧ v.R ρ' u' ∧ Mem E ρ' (effM eff m2) w' ∧ Le ρ ρ' ∧ ρ'.b = ρ.b := by
  unfold sxAppR at h
  split at h
  · rename_i t1 t2
    split at h
    · rename_i ht12
      subst ht12
      split at h
      · rename_i e hu
        split at h
        · rename_i t sz by_ z hty hsz hby hz
          split at h
          · rename_i hcond
            obtain ⟨hszt, hbound, hzc, hst⟩ := hcond
            split at h
            · rename_i l o l' hhd hpt
              obtain ⟨hlen, h⟩ := R3.need_some h
              have hlen := of_decide_eq_true hlen
              obtain ⟨i, hi, hi1, hi2, hi3⟩ := info_of hsz hby hz
              cases o with
              | none =>
                cases h
                refine ⟨_, _, _, rfl, ⟨trivial, trivial⟩, (fun _ h => by cases h), (fun h => by cases h), ?_⟩
                intro E ρ m2 w u1 u2 ty hfoot hM hx hy
                have hlm : m2.length = m.length := hfoot
                obtain ⟨hM2, hH⟩ := headS_sound hM (headR_none hhd) hx
                obtain ⟨news, b, c', hrow', rfl, hload⟩ := partS_sound hM2 (partS_still hst hpt) hy
                obtain ⟨u', w', ρ2, g1, g2, g3, g4, g5⟩ := append_core (P := P) hM2 hu hi hi1 hi2 hi3 hszt hbound hzc hH hlen hrow' hload ty
                rw [headW_none hhd] at g3
                exact ⟨u', w', ρ2, g1, by rw [← hlm]; exact g2, g3, g4, g5⟩
              | some j =>
                cases h
                refine ⟨_, _, _, rfl, ⟨?_, trivial⟩, (fun _ h => by cases h), (fun h => by cases h), ?_⟩
                · by_cases hj : j < N0
                  · rw [show footK N0 (some j) = .lb j from if_pos hj]
                    exact hj
                  · rw [show footK N0 (some j) = .all from if_neg hj]
                    trivial
                intro E ρ m2 w u1 u2 ty hfoot hM hx hy
                have hlm : m2.length = m.length ∧ m2[j]? = m[j]? := by
                  by_cases hj : j < N0
                  · rw [show footK N0 (some j) = .lb j from if_pos hj] at hfoot
                    exact hfoot
                  · rw [show footK N0 (some j) = .all from if_neg hj] at hfoot
                    have : m2 = m := hfoot
                    rw [this]
                    exact ⟨rfl, rfl⟩
                have hhd' : headS t m2 x = some (l, m2.set j .dead) ∧ headW m2 x = headW (headNo x m) x := by
                  have hj : headNo x m = mask (some j) m := by
                    unfold headR at hhd
                    split at hhd
                    · split at hhd
                      · split at hhd
                        · cases hhd; rfl
                        · cases hhd
                      · cases hhd
                    · split at hhd <;> cases hhd
                    · split at hhd
                      · split at hhd
                        · split at hhd
                          · cases hhd; rfl
                          · cases hhd
                        · cases hhd
                      · cases hhd
                    · cases hhd
                  have hpt' : ∀ b, b ≠ .dead → nth (headNo x m) j = some b → nth m2 j = some b := fun b hb h1 => ?_
                  exact ⟨headR_some hhd hpt', headW_some hhd hpt'⟩
                  rw [hj] at h1
                  have := mask_nth hb h1
                  rw [nth_eq] at this ⊢
                  rw [hlm.2, this]
                obtain ⟨hM2, hH⟩ := headS_sound hM hhd'.1 hx
                obtain ⟨news, b, c', hrow', rfl, hload⟩ := partS_sound hM2 (partS_still hst hpt) hy
                obtain ⟨u', w', ρ2, g1, g2, g3, g4, g5⟩ := append_core (P := P) hM2 hu hi hi1 hi2 hi3 hszt hbound hzc hH hlen hrow' hload ty
                rw [List.length_set] at g2
                rw [hhd'.2] at g3
                exact ⟨u', w', ρ2, g1, by rw [← hlm.1]; exact g2, g3, g4, g5⟩
            · cases h
          · cases h
        · cases h
      · cases h
    · cases h
  · cases h
/-- an operation that is wanted: what its record says -/
theorem rec_sound {ic : ICall β} (hic : ICallOk rd P ic) {call : CallK β} (hcall : CallOk rd P call) (hN : NamesOk P) {N0 i n : Nat} (hi : ops[i]? = some o) {k : Rec → Option β} (h : sxRec P rd ic call ops N0 o n s k = some out)
    (hwant : ∀ s', (∀ x ∈ o.looksAt ops, nth s'.t x = nth s.t x) → ∀ E ρ a w, Rep E ρ s' a w → Region.wanted o (yielded ops a.tmps) = true) :
    ∃ r, k r = some out ∧ r ≠ .never ∧ RecOk rd P ops N0 i o n s r ∧ RecB N0 r := by
  unfold sxRec at h
  simp only at h
  split at h
  · rename_i f args hg
    have notNew : isNew o.op = false := by
      unfold goCall at hg
      split at hg
      · rename_i c hop
        rw [hop]
        show isAppend c = false
        unfold isAppend
        split at hg
        · rename_i g hc
          rw [hc]
        · cases hg
      · cases hg
    split at h
    · rename_i hvs
      obtain ⟨hb, o2, h, hc⟩ := hic _ _ _ _ h
      have key : ∀ (E : Env) (Q : Exit → Act → World → Prop), E.rd = rd → ∀ foot s', Agree ops o foot s s' → ∀ ρ a w (K : Act → World → Prop), Rep E ρ s' a w →
          (∀ w' ρ1 (hrd : rd.Ok w fun _ => False), Mem (Env.iso rd w hrd ρ.z) ρ1 o2.m w' → OutOk ρ1 o2 (fun
            | .returned v, w'' => K (a.put o.dst v) w''
            | .panicked chain, w'' => Q (.panic chain) a w''
            | .outgrown, _ => LetsOut Q) w') → wpOp P ops Q i K a w := by
        intro E Q hE foot s' hag ρ a w K hr hfin
        subst hE
        refine wpOp_of_wp hi (hwant s' hag.t E ρ a w hr) ?_
        have he := evL_R hr (o.looksAt ops)
        rw [hag.ev] at he
        obtain ⟨us, h1, h2⟩ := call_run (P := P) (w := w) hN he hg hb
        unfold Oper.wp
        rw [h1]
        exact hc w ρ.z _ hr.m.kept.read us hr.m.zok (deep_RL (ρ := ρ) (ρ' := ⟨fun _ => none, fun _ => none, ρ.z⟩) (fun _ _ _ h => h) _ _ hvs h2) fun ρ1 w' hm1 => hfin w' ρ1 hr.m.kept.read hm1
      split at h
      · rename_i v hv
        split at h
        · rename_i hu
          refine ⟨_, h, by simp, ?_, ⟨fun b hb => (by cases hb), trivial⟩⟩
          intro E Q hE s' hag _ ρ a w K hr hfree hK
          refine key E Q hE _ s' hag ρ a w K hr fun w' ρ1 hrd hm1 => ?_
          unfold OutOk
          rw [hv]
          intro x hx
          obtain ⟨le, hm2⟩ := hr.m.afterIso hm1
          exact hK ⟨ρ.b, ρ.v, ρ1.z⟩ _ _ (hr.put le (deep_R (ρ := ρ1) (ρ' := ⟨ρ.b, ρ.v, ρ1.z⟩) (fun _ _ _ h => h) v x hu hx) hm2 o.dst) (fun _ y _ hy _ => hy)
        · rename_i hu
          refine ⟨_, h, by simp, ?_, ⟨trivial, trivial⟩⟩
          intro E Q hE s' hag hN0 ρ a w K hr hfree hK
          refine key E Q hE _ s' hag ρ a w K hr fun w' ρ1 hrd hm1 => ?_
          unfold OutOk
          rw [hv]
          intro x hx
          have hlen : s'.m.length = s.m.length := hag.m
          have hs := hr.m.beside hm1
          have hput := hr.put (v := v.shift s'.m.length) (beside_le hr.m hm1.pre.z) (shift_R v x hx) hs o.dst
          refine hK (beside ρ ρ1 s'.m.length) _ _ ?_ (fun _ y hy hy2 _ => ?_)
          · rw [hlen] at hput
            unfold St.app effM
            simp only
            rw [hlen]
            exact hput
          · show (if y < s'.m.length then ρ.b y else _) = none
            rw [if_pos (by omega)]
            exact hy2
      · rename_i v hv
        split at h
        · rename_i u hu
          refine ⟨_, h, by simp, ?_, trivial⟩
          intro E Q hE s' hag ρ a w K hr hK
          refine key E Q hE _ s' hag ρ a w K hr fun w' ρ1 hrd hm1 => ?_
          unfold OutOk
          rw [hv]
          intro x hx
          have : x = u := SV.plain_R _ _ _ hu hx
          subst this
          exact hK ρ a w' ⟨hr.t, hr.d, hr.m.below hm1.stopIso⟩
        · cases h
    · obtain ⟨hb, o2, h, hc⟩ := hcall _ _ _ _ _ h
      have key : ∀ (E : Env) (Q : Exit → Act → World → Prop), E.rd = rd → ∀ s', Agree ops o .all s s' → ∀ ρ a w (K : Act → World → Prop), Rep E ρ s' a w →
          (∀ w' ρ', Le ρ ρ' → Mem E ρ' o2.m w' → OutOk ρ' o2 (fun
            | .returned v, w'' => K (a.put o.dst v) w''
            | .panicked chain, w'' => Q (.panic chain) a w''
            | .outgrown, _ => LetsOut Q) w') → wpOp P ops Q i K a w := by
        intro E Q hE s' hag ρ a w K hr hfin
        refine wpOp_of_wp hi (hwant s' hag.t E ρ a w hr) ?_
        have he := evL_R hr (o.looksAt ops)
        rw [hag.ev] at he
        obtain ⟨us, h1, h2⟩ := call_run (P := P) (w := w) hN he hg hb
        unfold Oper.wp
        rw [h1]
        have hm := hr.m
        rw [show s'.m = s.m from hag.m] at hm
        exact hc E hE ρ w us _ hm h2 fun ρ' w' hl hm1 => hfin w' ρ' hl hm1
      split at h
      · rename_i hlen
        split at h
        · rename_i v hv
          refine ⟨_, h, by simp, ?_, ⟨trivial, hlen⟩⟩
          intro E Q hE s' hag hN0 ρ a w K hr hfree hK
          refine key E Q hE s' hag ρ a w K hr fun w' ρ' hl hm1 => ?_
          unfold OutOk
          rw [hv]
          intro x hx
          exact hK ρ' _ _ (hr.put hl hx hm1 o.dst) (fun hall => absurd rfl (hall _))
        · rename_i v hv
          split at h
          · rename_i u hu
            refine ⟨_, h, by simp, ?_, trivial⟩
            intro E Q hE s' hag ρ a w K hr hK
            refine key E Q hE s' hag ρ a w K hr fun w' ρ' hl hm1 => ?_
            unfold OutOk
            rw [hv]
            intro x hx
            have : x = u := SV.plain_R _ _ _ hu hx
            subst this
            exact hK ρ' a w' (hr.mem hl hm1)
          · cases h
      · cases h
  · rename_i hg
    split at h
    · rename_i hd hp
      split at h
      · rename_i hnew
        split at h
        · rename_i ts x y hap
          obtain ⟨r, h1, h2⟩ := R3.k_some _ _ _ h
          obtain ⟨v, eff, foot, rfl, hB, hall, hnone, hsnd⟩ := appR_sound h1
          refine ⟨_, h2, by simp, ?_, hB⟩
          intro E Q hE s' hag hN0 ρ a w K hr hfree hK
          refine wpOp_of_wp hi (hwant s' hag.t E ρ a w hr) ?_
          have he := evL_R hr (o.looksAt ops)
          rw [hag.ev] at he
          obtain ⟨u', w', ρ', g1, g2, g3, g4, g5⟩ := hsnd E ρ s'.m w _ _ o.type hag.m hr.m (he x) (he y)
          unfold Oper.wp
          rw [appArgs_run hap g1]
          exact hK ρ' _ _ (hr.put g4 g2 g3 o.dst) (fun _ x _ hx _ => by rw [g5]; exact hx)
        split at h
        · rename_i r hdead hmk
          split at h
          · rename_i hnN
            rcases sxMakeH_cases hmk with hmk | ⟨n1, n2, k1, k2, l1, e1, hbd, hmk, hst1⟩
            · have hB : RecB N0 (.ok r (.bs [n])) := by
                refine ⟨fun b hb => (by simp at hb; omega), ?_⟩
                unfold sxMake at hmk
                cases hop : o.op <;> rw [hop] at hmk <;> try (cases hmk; done)
                · simp only at hmk
                  split at hmk
                  · cases hmk; exact hnN
                  · cases hmk
                · simp only at hmk
                  split at hmk
                  · cases hmk; exact hnN
                  · cases hmk
                · simp only at hmk
                  split at hmk
                  · cases hmk; exact hnN
                  · cases hmk
                · rename_i t rs
                  cases rs with
                  | none => cases hmk; exact hnN
                  | some x => cases hmk
              refine ⟨_, h, by simp, ?_, hB⟩
              intro E Q hE s' hag hN0 ρ a w K hr hfree hK
              refine wpOp_of_wp hi (hwant s' hag.t E ρ a w hr) ?_
              have he := evL_R hr (o.looksAt ops)
              rw [hag.ev] at he
              have hlen : n < s'.m.length := by omega
              have make : ∀ (b1 : Blk) (o1 : Obj) (v1 : SV) (u1 : Value), b1.flat = true → b1.O ρ o1 → v1.R (ext ρ n w.heap.size) u1 → r = ⟨v1, .one n b1⟩ → (execOp a.eval o).run P w = .ok (.value u1) { w with heap := w.heap.push o1 } → o.wp P a w K Q := by
                intro b1 o1 v1 u1 hflat hl hv1 hre hrun
                subst hre
                have hn := hfree hnew (by simp)
                unfold Oper.wp
                rw [hrun]
                refine hK (ext ρ n w.heap.size) _ _ (hr.put (ext_le hn) hv1 (hr.m.newAt hl hn (fun i hi => by simpa [effM] using hi) (fun i b hne h1 _ => ?_) ?_ hflat) o.dst) (fun _ x hx0 hx hxn => ?_)
                · simp only [effM] at h1
                  rw [List.getElem?_set_ne (Ne.symm hne)] at h1
                  exact h1
                · simp [effM, hlen]
                · show (if x = n then some w.heap.size else ρ.b x) = none
                  rw [if_neg (hxn hnew)]
                  exact hx
              unfold sxMake at hmk
              cases hop : o.op <;> rw [hop] at hmk <;> try (cases hmk; done)
              · rename_i t
                simp only at hmk
                split at hmk
                · rename_i z hz
                  cases hmk
                  refine make (.cells (z.cells.toList.map .val) t true) (.cells z.cells.toList.toArray t) (.ptr n 0) (.pointer (some ⟨w.heap.size, 0, none⟩)) rfl ⟨_, rfl, SV.RL.vals _⟩ ⟨w.heap.size, ext_at _ _ _, rfl⟩ rfl ?_
                  simp only [execOp, hop, Instr.alloc, Sem.run_bind, run_zero hz, Result.andThen_ok, newVar, newRow, newObj, Sem.run, Sem.run_pure]
                · cases hmk
              · rename_i t x
                simp only at hmk
                split at hmk
                · rename_i l hl
                  cases hmk
                  refine make (.cells l t true) (.cells (a.eval x).cells.toList.toArray t) (.ptr n 0) (.pointer (some ⟨w.heap.size, 0, none⟩)) rfl ⟨_, rfl, atom_R (he x) hl⟩ ⟨w.heap.size, ext_at _ _ _, rfl⟩ rfl ?_
                  simp only [execOp, hop, Instr.box, Sem.run_bind, Result.andThen_ok, newVar, newRow, newObj, Sem.run, Sem.run_pure]
                · cases hmk
              · rename_i t k parts
                simp only at hmk
                split at hmk
                · rename_i i1 i2 i3 i4 l e hb
                  cases hmk
                  have hb' : (sxBuildSlice P t k (parts.toList.map (·.1)) (allSome (parts.toList.map fun p => (evL (Oper.looksAt ops o) s p.2).cells)) []).res = some (.sl i1 i2 i3 i4, [.cells l e true]) := by rw [hb]; rfl
                  obtain ⟨us, e', css, g1, g2, g3, g4⟩ := build_run (w := w) he hb'
                  simp only [List.nil_append, List.cons.injEq, Blk.cells.injEq, and_true] at g2
                  obtain ⟨rfl, rfl⟩ := g2
                  refine make (.cells l e true) (.cells us.toArray e) (.sl n 0 k k) (.slice (some ⟨w.heap.size, 0, none⟩) k k) rfl ⟨us, rfl, g3⟩ ⟨w.heap.size, ext_at _ _ _, rfl⟩ rfl ?_
                  simp only [execOp, hop, Sem.run_bind, g4, Result.andThen_ok, Sem.run_pure]
                · cases hmk
              · rename_i t rs
                cases rs with
                | some x => cases hmk
                | none =>
                  cases hmk
                  refine make (newMap P t) (.map #[] 0) (.mp n) (.map (some w.heap.size)) newMap_flat newMap_O ⟨w.heap.size, ext_at _ _ _, rfl⟩ rfl ?_
                  simp [execOp, hop, Instr.makeMap, newObj, Sem.run]
            · unfold sxMake at hmk
              cases hop : o.op <;> rw [hop] at hmk hbd <;> try (cases hbd; done)
              rename_i t k parts
              simp only at hmk
              split at hmk
              · rename_i i1 i2 i3 i4 l e hb
                cases hmk
                unfold stillS at hst1
                split at hst1
                · rename_i ty hty
                  split at hst1
                  · rename_i x hp
                    cases hst1
                    refine ⟨_, h, by simp, ?_, ⟨fun b hb => (by simp at hb; omega), hnN⟩⟩
                    intro E Q hE s' hag hN0 ρ a w K hr hfree hK
                    refine wpOp_of_wp hi (hwant s' hag.t E ρ a w hr) ?_
                    have he := evL_R hr (o.looksAt ops)
                    rw [hag.ev] at he
                    have hlen : n < s'.m.length := by omega
                    have hb' : (sxBuildSlice P t k1 (parts.toList.map (·.1)) (allSome (parts.toList.map fun p => (evL (Oper.looksAt ops o) s p.2).cells)) []).res = some (.sl i1 i2 i3 i4, [.cells l1 e1 true]) := by rw [hb]; rfl
                    obtain ⟨us, e', css, g1, g2, g3, g4⟩ := build_run (w := w) he hb'
                    simp only [List.nil_append, List.cons.injEq, Blk.cells.injEq, and_true] at g2
                    obtain ⟨rfl, rfl⟩ := g2
                    have hn := hfree hnew (by simp)
                    unfold Oper.wp
                    have hrun : (execOp a.eval o).run P w = .ok (.value (.slice (some ⟨w.heap.size, 0, none⟩) k1 k1)) { w with heap := w.heap.push (.cells us.toArray e1) } := by
                      simp only [execOp, hop, Sem.run_bind, g4, Result.andThen_ok, Sem.run_pure]
                    rw [hrun]
                    have hm1 : Mem E (ext ρ n w.heap.size) (s'.m.set n (.cells l1 e1 true)) { w with heap := w.heap.push (.cells us.toArray e1) } :=
                      hr.m.newAt (b1 := .cells l1 e1 true) ⟨us, rfl, g3⟩ hn (fun i hi => by simpa using hi) (fun i b hne h1 _ => by rw [List.getElem?_set_ne (Ne.symm hne)] at h1; exact h1) (by simp [hlen]) rfl
                    obtain ⟨ρ2, le2, hb2, hm2⟩ := hm1.frz1 n
                    have hf : frz1 (s'.m.set n (.cells l1 e1 true)) n = s'.m.set n (.cells l1 e1 false) := by
                      unfold frz1
                      rw [nth_eq, List.getElem?_set_self hlen]
                      simp
                    rw [hf] at hm2
                    have hm3 : Mem E ρ2 ((List.replicate s'.m.length Blk.dead).set n (.cells l1 e1 false)) { w with heap := w.heap.push (.cells us.toArray e1) } := by
                      refine hm2.weaken (by simp) fun x => ?_
                      by_cases hx : x = n
                      · subst hx
                        left
                        rw [List.getElem?_set_self (by simpa using hlen), List.getElem?_set_self hlen]
                      · rw [List.getElem?_set_ne (Ne.symm hx), List.getElem?_set_ne (Ne.symm hx)]
                        by_cases hx2 : x < s'.m.length
                        · right
                          rw [List.getElem?_replicate, if_pos hx2]
                        · left
                          rw [List.getElem?_eq_none (by simpa using hx2), List.getElem?_eq_none (by omega)]
                    have hag2 : ∀ i, lookB (List.replicate n Blk.dead ++ [.cells l1 e1 false]) i = lookB ((List.replicate s'.m.length Blk.dead).set n (.cells l1 e1 false)) i := fun i => by
                      unfold lookB
                      rw [nth_eq, nth_eq]
                      rcases Nat.lt_trichotomy i n with hx | hx | hx
                      · rw [List.getElem?_append_left (by simpa using hx), List.getElem?_set_ne (by omega), List.getElem?_replicate, List.getElem?_replicate, if_pos hx, if_pos (by omega)]
                      · subst hx
                        rw [List.getElem?_set_self (by simpa using hlen), List.getElem?_append_right (by simp)]
                        simp
                      · rw [List.getElem?_set_ne (by omega), List.getElem?_eq_none (by simp; omega), List.getElem?_replicate]
                        by_cases hx2 : i < s'.m.length
                        · rw [if_pos hx2]
                        · rw [if_neg hx2]
                    have hv : (SV.sl n 0 k1 k1).R ρ2 (.slice (some ⟨w.heap.size, 0, none⟩) k1 k1) := SV.R.pre le2 ⟨w.heap.size, ext_at _ _ _, rfl⟩
                    rw [parseT_agree hag2] at hp
                    obtain ⟨ds, us', h5, h6, h7⟩ := parseT_sound hm3 _ _ _ _ [.slice (some ⟨w.heap.size, 0, none⟩) k1 k1] hp ⟨_, _, rfl, hv, rfl⟩
                    rw [SV.RL] at h7
                    subst h7
                    rw [List.append_nil] at h5
                    subst h5
                    have h8 := flatT_R (.sl ty) x _ h6
                    obtain ⟨_, _, e9, h9, _⟩ := h8
                    cases e9
                    refine hK ρ2 _ _ (hr.put ((ext_le hn).trans le2) h9 (by simpa [effM] using hm2) o.dst) (fun _ x hx0 hx hxn => ?_)
                    rw [hb2]
                    show (if x = n then some w.heap.size else ρ.b x) = none
                    rw [if_neg (hxn hnew)]
                    exact hx
                  · cases hst1
                · cases hst1
              · cases hmk
          · cases h
        · cases h
      · rename_i hnew
        have hnew' : isNew o.op = false := by simpa using hnew
        split at h
        · rename_i hst
          split at h
          · rename_i r b hput
            split at h
            · rename_i hbN
              unfold sxPut at hput
              cases hop : o.op <;> rw [hop] at hput <;> try (cases hput; done)
              rename_i t x y
              simp only at hput
              split at hput
              · rename_i j off hx
                rw [nth_eq] at hput
                split at hput
                · rename_i bb hbb
                  split at hput
                  · rename_i b' hb'
                    cases hput
                    refine ⟨_, h, by simp, ?_, ⟨fun q hq => (by simp at hq; omega), hbN⟩⟩
                    intro E Q hE s' hag hN0 ρ a w K hr hfree hK
                    refine wpOp_of_wp hi (hwant s' hag.t E ρ a w hr) ?_
                    have he := evL_R hr (o.looksAt ops)
                    rw [hag.ev] at he
                    have h1 := he x
                    rw [hx] at h1
                    obtain ⟨q, hq, hq2⟩ := h1
                    have hbb' : s'.m[b]? = some bb := (hag.m b (by simp)).trans hbb
                    obtain ⟨w', h2, h3⟩ := stBlk_sound (P := P) hr.m hq hbb' (he y) hb'
                    unfold Oper.wp
                    rw [show (execOp a.eval o).run P w = .ok .skip w' by simp [execOp, hop, hq2, h2]]
                    exact hK ρ _ _ (hr.put (Le.refl _) undef_R h3 o.dst) (fun _ x _ hx _ => hx)
                  · cases hput
                · cases hput
              · cases hput
            · cases h
          · cases h
        · rename_i hst
          have hst' : isStore o.op = false := by simpa using hst
          obtain ⟨⟨v, m'⟩, h1, h2⟩ := R3.k_some _ _ _ h
          have hB : RecB N0 (.ok ⟨v, .none⟩ (footQ N0 (footOf o (evL (o.looksAt ops) s)))) := by
            refine ⟨?_, trivial⟩
            cases footOf o (evL (o.looksAt ops) s) with
            | none => exact fun b hb => by cases hb
            | some q =>
              by_cases hq : q < N0
              · rw [show footQ N0 (some q) = .bs [q] from if_pos hq]
                intro b hb
                rw [List.mem_singleton] at hb
                omega
              · rw [show footQ N0 (some q) = .all from if_neg hq]
                trivial
          refine ⟨_, h2, by simp, ?_, hB⟩
          intro E Q hE s' hag hN0 ρ a w K hr hfree hK
          refine wpOp_of_wp hi (hwant s' hag.t E ρ a w hr) ?_
          have he := evL_R hr (o.looksAt ops)
          rw [hag.ev] at he
          rw [← mask_agree hag] at h1
          subst hE
          obtain ⟨u, h3, h4, _⟩ := val_quiet (P := P) hnew' hst' (hr.m.view.mask _) he h1
          unfold Oper.wp
          rw [h3]
          exact hK ρ _ _ (hr.put (Le.refl _) h4 hr.m o.dst) (fun _ x _ hx _ => hx)
    · cases h
theorem gate_sound {ic : ICall β} (hic : ICallOk rd P ic) {call : CallK β} (hcall : CallOk rd P call) (hN : NamesOk P) {N0 i n : Nat} (hi : ops[i]? = some o) {k : St → Rec → Option β} (h : sxGate P rd ic call ops N0 o n s k = some out) :
    ∃ r, k s r = some out ∧ r ≠ .never ∧ RecOk rd P ops N0 i o n s r ∧ RecB N0 r := by
  unfold sxGate at h
  split at h
  · rename_i hg
    exact rec_sound hic hcall hN hi h fun s' _ E ρ a w _ => by simp [Region.wanted, hg]
  · rename_i j want hg
    have hgate : ∀ s', (∀ x ∈ o.looksAt ops, nth s'.t x = nth s.t x) → gate ops s' j = gate ops s j := fun s' hs' => by
      unfold gate
      cases ht : (ops[j]?).bind (·.dst) with
      | none => rfl
      | some t =>
        simp only
        rw [hs' t (by unfold Oper.looksAt; rw [hg]; simp only; rw [ht]; simp)]
    have skip : ∀ b', gate ops s j = some b' → b' ≠ some want → RecOk rd P ops N0 i o n s (.ok ⟨.val undef, .none⟩ (.bs [])) := fun b' hb' hne E Q hE s' hag _ ρ a w K hr _ hK => by
      have h1 := gate_R hr ((hgate s' hag.t).trans hb')
      refine wpOp_of_skip hi ?_ (hK ρ _ _ (hr.put (v := .val undef) (m' := s'.m) (Le.refl _) rfl hr.m o.dst) (fun _ x _ hx _ => hx))
      unfold Region.wanted
      rw [hg]
      simp only
      rw [h1]
      exact beq_eq_false_iff_ne.2 hne
    split at h
    · rename_i b hb
      have hrf := gate_refine hb
      have run : ∀ b', b' = want → gate ops s j = some (some b') → sxRec P rd ic call ops N0 o n s (k s) = some out → ∃ r, k s r = some out ∧ r ≠ .never ∧ RecOk rd P ops N0 i o n s r ∧ RecB N0 r := fun b' hb' hgb hrun => by
        subst hb'
        refine rec_sound hic hcall hN hi hrun fun s' hs' E ρ a w hr => ?_
        have h1 := gate_R hr ((hgate s' hs').trans hgb)
        unfold Region.wanted
        rw [hg]
        simp only
        rw [h1]
        exact beq_self_eq_true _
      cases want <;> cases b <;> simp only [cond_true, cond_false] at h <;> rw [hrf] at h
      · exact run false rfl hb h
      · exact ⟨_, h, by simp, skip _ hb (fun e => by cases e), ⟨fun b hb => (by cases hb), trivial⟩⟩
      · exact ⟨_, h, by simp, skip _ hb (fun e => by cases e), ⟨fun b hb => (by cases hb), trivial⟩⟩
      · exact run true rfl hb h
    · rename_i hb
      exact ⟨_, h, by simp, skip _ hb (fun e => by cases e), ⟨fun b hb => (by cases hb), trivial⟩⟩
    · cases h

/-- the records of the walk az the text has it -/
def LexP (rd : Rd) (P : Program) (ops : Array Oper) (N0 : Nat) (pre : List (List Nat)) : List Oper → List Rec → Nat → Nat → Option Bad → Option Bad → St → St → Prop
  | [], recs, _, _, bad, bad', s, s' => recs = [] ∧ bad' = bad ∧ s' = s
  | o :: l, recs, i, n, bad, bad', s, s' => ∃ r recs' b1, recs = r :: recs' ∧ (r = .never → ∃ j v, bad = some (j, v) ∧ j ∈ (nth pre i).getD []) ∧ RecOk rd P ops N0 i o n s r ∧ RecB N0 r ∧
      badStep i bad r = some b1 ∧ LexP rd P ops N0 pre l recs' (i + 1) (if isNew o.op then n + 1 else n) b1 bad' (s.appR o.dst r) s'
theorem lex_sound {ic : ICall β} (hic : ICallOk rd P ic) {call : CallK β} (hcall : CallOk rd P call) (hN : NamesOk P) {N0 : Nat} {pre : List (List Nat)} {fin : List Rec → Option Bad → St → Option β} : ∀ (l : List Oper) (i n : Nat) (acc : List Rec) (bad : Option Bad) (s : St),
    (∀ j, l[j]? = ops[i + j]?) → sxLex P rd ic call ops N0 pre fin l i n acc bad s = some out → ∃ recs bad' s', LexP rd P ops N0 pre l recs i n bad bad' s s' ∧ fin (acc.reverse ++ recs) bad' s' = some out
  | [], i, n, acc, bad, s, hl, h => ⟨[], bad, s, ⟨rfl, rfl, rfl⟩, by simpa [sxLex] using h⟩
  | o :: l, i, n, acc, bad, s, hl, h => by
    have h0 : ops[i]? = some o := by simpa using (hl 0).symm
    have hl' : ∀ j, l[j]? = ops[i + 1 + j]? := fun j => by have := hl (j + 1); simpa [Nat.add_assoc, Nat.add_comm 1 j] using this
    unfold sxLex at h
    rw [St.f_eq] at h
    simp only at h
    have fini : ∀ r, (match badStep i bad r with
      | some bad' => sxLex P rd ic call ops N0 pre fin l (i + 1) (if isNew o.op then n + 1 else n) (r :: acc) bad' (s.appR o.dst r)
      | none => none) = some out → (r = .never → ∃ j v, bad = some (j, v) ∧ j ∈ (nth pre i).getD []) → RecOk rd P ops N0 i o n s r → RecB N0 r →
        ∃ recs bad' s', LexP rd P ops N0 pre (o :: l) recs i n bad bad' s s' ∧ fin (acc.reverse ++ recs) bad' s' = some out := fun r hr hnv hrec hrb => by
      split at hr
      · rename_i b1 hb1
        obtain ⟨recs, bad', s', h1, h2⟩ := lex_sound hic hcall hN l _ _ _ _ _ hl' hr
        exact ⟨r :: recs, bad', s', ⟨r, recs, b1, rfl, hnv, hrec, hrb, hb1, h1⟩, by simpa using h2⟩
      · cases hr
    split at h
    · obtain ⟨r, h1, h2, h3, h4⟩ := gate_sound hic hcall hN h0 h
      exact fini r h1 (fun e => absurd e h2) h3 h4
    · rename_i j v
      split at h
      · rename_i hc
        exact fini .never h (fun _ => ⟨j, v, rfl, by simpa using hc⟩) trivial trivial
      · obtain ⟨r, h1, h2, h3, h4⟩ := gate_sound hic hcall hN h0 h
        exact fini r h1 (fun e => absurd e h2) h3 h4

end
end Go.SX

/-
  A symbolic executor: whatever order a region draws, it comes to the same.
-/
namespace Go.SX
open Go.RowKit

def tgtT (d : Option Tmp) : Rec → Option Tmp
  | .ok _ _ => d
  | _ => none
/-- what an operation writes of the blocks -/
inductive Wr where
  | none
  | one (i : Nat)
  | app
  | kap (i : Nat)
  | all
def wrOf : Rec → Wr
  | .ok r _ => match r.eff with
    | .none => .none
    | .one i _ => .one i
    | .app _ => .app
    | .kap i _ => .kap i
    | .all _ => .all
  | _ => .none
def footR : Rec → Foot
  | .ok _ f => f
  | .pan _ m => footPan m
  | .never => .bs []
def hits : Wr → Foot → Bool
  | .none, _ => false
  | .one i, .bs l => l.contains i
  | .one _, .len => false
  | .one i, .lb j => decide (i = j)
  | .one _, .all => true
  | .kap i, .bs l => l.contains i
  | .kap _, _ => true
  | .app, .bs _ => false
  | .app, _ => true
  | .all, .bs l => !l.isEmpty
  | .all, _ => true
def meets : Wr → Wr → Bool
  | .none, _ => false
  | _, .none => false
  | .one i, .one j => decide (i = j)
  | .one _, .app => false
  | .app, .one _ => false
  | .one i, .kap j => decide (i = j)
  | .kap i, .one j => decide (i = j)
  | _, _ => true
/-- two operations that must stand in the text's order -/
def clash (ops : Array Oper) (o p : Oper) (r q : Rec) : Bool :=
  (match tgtT o.dst r with
   | some x => (p.looksAt ops).contains x || decide (tgtT p.dst q = some x)
   | none => false) ||
  (match tgtT p.dst q with
   | some x => (o.looksAt ops).contains x
   | none => false) ||
  hits (wrOf r) (footR q) || hits (wrOf q) (footR r) || meets (wrOf r) (wrOf q)
def isAll : Rec → Bool
  | .ok r _ => match r.eff with | .all _ => true | _ => false
  | _ => false
/-- behind a call that may write any block no block is made -/
def newB : List Oper → List Rec → Bool
  | _ :: l, r :: rs => (!isAll r || l.all fun o => !isNew o.op) && newB l rs
  | _, _ => true
def preOf (pre : List (List Nat)) (i : Nat) : List Nat := (nth pre i).getD []
def aftersOf (o : Oper) : List Nat := (o.after.toList.filter (Region.binds .any)).map (·.on)
/-- the table of what must have come before -/
def nf {γ : Type} (n : Nat) (k : Nat → γ) : γ :=
  match n with
  | 0 => k 0
  | m + 1 => k (m + 1)
theorem nf_eq {γ : Type} (n : Nat) (k : Nat → γ) : nf n k = k n := by cases n <;> rfl
def maskOf (o : Oper) (acc : List Nat) : Nat := (aftersOf o).foldl (fun m e => Nat.lor (Nat.lor m (2 ^ e)) ((nth acc e).getD 0)) 0
def mkMask : List Oper → List Nat → List Nat
  | [], acc => acc
  | o :: l, acc => nf (maskOf o acc) fun x => lf (fun y k => k y) (acc ++ [x]) fun acc' => mkMask l acc'
def bitsOf (n m : Nat) : List Nat := (List.range n).filter fun i => Nat.testBit m i
def mkPre (l : List Oper) : List (List Nat) := (mkMask l []).map (bitsOf l.length)
def preF {γ : Type} (l : List (List Nat)) (k : List (List Nat) → γ) : γ := lf (fun x k => lf nf x k) l k
theorem preF_eq {γ : Type} (l : List (List Nat)) (k : List (List Nat) → γ) : preF l k = k l := lf_eq _ (fun x k => lf_eq _ nf_eq x k) l k
def preB (pre : List (List Nat)) : List Oper → Nat → Bool
  | [], _ => true
  | o :: l, i => (aftersOf o).all (fun e => decide (e < i)) && (preOf pre i).all (fun p => (aftersOf o).contains p || (aftersOf o).any fun q => (preOf pre q).contains p) && preB pre l (i + 1)
def pairB (ops : Array Oper) (pre : List (List Nat)) (o : Oper) (r : Rec) (i : Nat) : List Oper → List Rec → Nat → Bool
  | p :: l, q :: rs, j => (!clash ops o p r q || (preOf pre j).contains i) && pairB ops pre o r i l rs (j + 1)
  | _, _, _ => true
def orderB (ops : Array Oper) (pre : List (List Nat)) : List Oper → List Rec → Nat → Bool
  | o :: l, r :: rs, i => pairB ops pre o r i l rs (i + 1) && orderB ops pre l rs (i + 1)
  | _, _, _ => true

/-- the state when these have come -/
def comb : List Oper → List Rec → (Nat → Bool) → Nat → St → St
  | o :: l, r :: rs, f, i, s => comb l rs f (i + 1) (if f i then s.appR o.dst r else s)
  | _, _, _, _, s => s

section
theorem app_t (s : St) (d : Option Tmp) (r : Rec) : (s.appR d r).t = match r, d with | .ok rc _, some x => s.t.set x rc.v | _, _ => s.t := by
  cases r <;> cases d <;> rfl
theorem app_d (s : St) (d : Option Tmp) (r : Rec) : (s.appR d r).d = s.d := by
  cases r <;> cases d <;> rfl
theorem St.ext3 {s s' : St} (h1 : s.t = s'.t) (h2 : s.m = s'.m) (h3 : s.d = s'.d) : s = s' := by
  cases s; cases s'; simp_all
theorem app_t_get {s s' : St} {d : Option Tmp} {r : Rec} {x : Nat} (h : nth s.t x = nth s'.t x) (hl : s.t.length = s'.t.length) : nth (s.appR d r).t x = nth (s'.appR d r).t x ∧ (s.appR d r).t.length = (s'.appR d r).t.length := by
  rw [app_t, app_t]
  rw [nth_eq, nth_eq] at *
  cases r <;> cases d <;> first | exact ⟨h, hl⟩ | skip
  rename_i rc _ y
  simp only [List.getElem?_set, List.length_set, hl, h]
  exact ⟨trivial, trivial⟩
theorem app_t_other {s : St} {d : Option Tmp} {r : Rec} {x : Nat} (h : tgtT d r ≠ some x) : nth (s.appR d r).t x = nth s.t x ∧ (s.appR d r).t.length = s.t.length := by
  rw [app_t]
  rw [nth_eq, nth_eq]
  cases r <;> cases d <;> first | exact ⟨rfl, rfl⟩ | skip
  rename_i rc _ y
  have : y ≠ x := fun e => h (by simp [tgtT, e])
  simp [List.getElem?_set_ne this]
/-- what two lists of blocks have in common -/
def Foot.rel (f : Foot) (m m' : List Blk) : Prop :=
  match f with
  | .bs l => ∀ b ∈ l, m[b]? = m'[b]?
  | .len => m.length = m'.length
  | .lb i => m.length = m'.length ∧ m[i]? = m'[i]?
  | .all => m = m'
def FootB (N0 : Nat) : Foot → Prop
  | .bs l => ∀ b ∈ l, b < N0
  | .lb i => i < N0
  | _ => True
theorem app_m' (s : St) (d : Option Tmp) (r : Rec) : (s.appR d r).m = match r with | .ok rc _ => effM rc.eff s.m | _ => s.m := by
  cases r <;> cases d <;> rfl
theorem app_len {s : St} {d : Option Tmp} {r : Rec} {N0 : Nat} (hr : RecB N0 r) (h : N0 ≤ s.m.length) : N0 ≤ (s.appR d r).m.length := by
  rw [app_m']
  cases r with
  | pan v m => exact h
  | never => exact h
  | ok rc f =>
    obtain ⟨v, e⟩ := rc
    cases e with
    | none => exact h
    | one i b => simpa [effM] using h
    | app bs => simp [effM]; omega
    | kap i b => simp [effM]; omega
    | all m => exact hr.2
/-- a step on both sides -/
theorem rel_both {s s' : St} {d : Option Tmp} {r : Rec} {f : Foot} {N0 : Nat} (hf : FootB N0 f) (hl : N0 ≤ s.m.length) (hl' : N0 ≤ s'.m.length) (h : f.rel s.m s'.m) : f.rel (s.appR d r).m (s'.appR d r).m := by
  rw [app_m', app_m']
  cases r with
  | pan v m => exact h
  | never => exact h
  | ok rc g =>
    obtain ⟨v, e⟩ := rc
    cases e with
    | none => exact h
    | one i b =>
      cases f with
      | bs l =>
        intro x hx
        have h1 := hf x hx
        have h2 := h x hx
        simp only [effM, List.getElem?_set, h2]
        by_cases hi : i = x
        · subst hi; rw [if_pos rfl, if_pos rfl, if_pos (by omega), if_pos (by omega)]
        · rw [if_neg hi, if_neg hi]
      | len => simpa [effM, Foot.rel] using h
      | lb j =>
        obtain ⟨h1, h2⟩ := h
        refine ⟨by simpa [effM] using h1, ?_⟩
        simp only [effM, List.getElem?_set, h2]
        by_cases hi : i = j
        · subst hi; rw [if_pos rfl, if_pos rfl]; simp only [h1]
        · rw [if_neg hi, if_neg hi]
      | all => simp only [Foot.rel] at h ⊢; rw [h]
    | kap i b =>
      cases f with
      | bs l =>
        intro x hx
        have h1 := hf x hx
        have h2 := h x hx
        simp only [effM]
        rw [List.getElem?_append_left (by simp; omega), List.getElem?_append_left (by simp; omega), List.getElem?_set, List.getElem?_set, h2]
        by_cases hi : i = x
        · subst hi; rw [if_pos rfl, if_pos rfl, if_pos (by omega), if_pos (by omega)]
        · rw [if_neg hi, if_neg hi]
      | len => simpa [effM, Foot.rel] using h
      | lb j =>
        obtain ⟨h1, h2⟩ := h
        have h3 : j < N0 := hf
        refine ⟨by simpa [effM] using h1, ?_⟩
        simp only [effM]
        rw [List.getElem?_append_left (by simp; omega), List.getElem?_append_left (by simp; omega), List.getElem?_set, List.getElem?_set, h2]
        by_cases hi : i = j
        · subst hi; rw [if_pos rfl, if_pos rfl]; simp only [h1]
        · rw [if_neg hi, if_neg hi]
      | all => simp only [Foot.rel] at h ⊢; rw [h]
    | app bs =>
      cases f with
      | bs l =>
        intro x hx
        have h1 := hf x hx
        simp only [effM]
        rw [List.getElem?_append_left (by omega), List.getElem?_append_left (by omega)]
        exact h x hx
      | len => simp only [effM, Foot.rel, List.length_append] at h ⊢; omega
      | lb j =>
        obtain ⟨h1, h2⟩ := h
        have h3 : j < N0 := hf
        refine ⟨by simp only [effM, List.length_append]; omega, ?_⟩
        simp only [effM]
        rw [List.getElem?_append_left (by omega), List.getElem?_append_left (by omega)]
        exact h2
      | all => simp only [Foot.rel] at h ⊢; rw [h]
    | all m =>
      cases f with
      | bs l => exact fun _ _ => rfl
      | len => rfl
      | lb j => exact ⟨rfl, rfl⟩
      | all => rfl
/-- a step on one side, which does not hit -/
theorem rel_one {s : St} {d : Option Tmp} {r : Rec} {f : Foot} {N0 : Nat} (hf : FootB N0 f) (hl : N0 ≤ s.m.length) (hh : hits (wrOf r) f = false) : f.rel (s.appR d r).m s.m := by
  have refl : ∀ m, f.rel m m := fun m => by cases f <;> first | exact fun _ _ => rfl | exact ⟨rfl, rfl⟩ | rfl
  rw [app_m']
  cases r with
  | pan v m => exact refl _
  | never => exact refl _
  | ok rc g =>
    obtain ⟨v, e⟩ := rc
    cases e with
    | none => exact refl _
    | one i b =>
      cases f with
      | bs l =>
        intro x hx
        have : i ≠ x := fun e => by
          subst e
          simp [wrOf, hits] at hh
          exact hh hx
        simp [effM, List.getElem?_set_ne this]
      | len => simp [effM, Foot.rel]
      | lb j =>
        have : i ≠ j := fun e => by simp [wrOf, hits, e] at hh
        exact ⟨by simp [effM], by simp [effM, List.getElem?_set_ne this]⟩
      | all => simp [wrOf, hits] at hh
    | kap i b =>
      cases f with
      | bs l =>
        intro x hx
        have h1 := hf x hx
        have : i ≠ x := fun e => by
          subst e
          simp [wrOf, hits] at hh
          exact hh hx
        simp only [effM]
        rw [List.getElem?_append_left (by simp; omega), List.getElem?_set_ne this]
      | len => simp [wrOf, hits] at hh
      | lb j => simp [wrOf, hits] at hh
      | all => simp [wrOf, hits] at hh
    | app bs =>
      cases f with
      | bs l =>
        intro x hx
        have h1 := hf x hx
        simp only [effM]
        rw [List.getElem?_append_left (by omega)]
      | len => simp [wrOf, hits] at hh
      | lb j => simp [wrOf, hits] at hh
      | all => simp [wrOf, hits] at hh
    | all m =>
      cases f with
      | bs l =>
        cases l with
        | nil => exact fun x hx => by cases hx
        | cons y l => simp [wrOf, hits] at hh
      | len => simp [wrOf, hits] at hh
      | lb j => simp [wrOf, hits] at hh
      | all => simp [wrOf, hits] at hh
theorem Foot.rel_trans {f : Foot} {a b c : List Blk} (h : f.rel a b) (k : f.rel b c) : f.rel a c := by
  cases f with
  | bs l => exact fun x hx => (h x hx).trans (k x hx)
  | len => exact Eq.trans h k
  | lb j => exact ⟨h.1.trans k.1, h.2.trans k.2⟩
  | all => exact Eq.trans h k
theorem Foot.rel_symm {f : Foot} {a b : List Blk} (h : f.rel a b) : f.rel b a := by
  cases f with
  | bs l => exact fun x hx => (h x hx).symm
  | len => exact Eq.symm h
  | lb j => exact ⟨Eq.symm h.1, Eq.symm h.2⟩
  | all => exact Eq.symm h
theorem comb_t {x : Nat} : ∀ (l : List Oper) (rs : List Rec) (f g : Nat → Bool) (i : Nat) (s s' : St), nth s.t x = nth s'.t x → s.t.length = s'.t.length →
    (∀ j o r, l[j]? = some o → rs[j]? = some r → tgtT o.dst r = some x → f (i + j) = g (i + j)) → nth (comb l rs f i s).t x = nth (comb l rs g i s').t x ∧ (comb l rs f i s).t.length = (comb l rs g i s').t.length
  | [], _, _, _, _, _, _, h, hl, _ => ⟨h, hl⟩
  | o :: l, [], _, _, _, _, _, h, hl, _ => ⟨h, hl⟩
  | o :: l, r :: rs, f, g, i, s, s', h, hl, hw => by
    unfold comb
    have step : nth (if f i then s.appR o.dst r else s).t x = nth (if g i then s'.appR o.dst r else s').t x ∧ (if f i then s.appR o.dst r else s).t.length = (if g i then s'.appR o.dst r else s').t.length := by
      by_cases ht : tgtT o.dst r = some x
      · have := hw 0 o r rfl rfl ht
        rw [Nat.add_zero] at this
        rw [this]
        cases g i
        · exact ⟨h, hl⟩
        · exact app_t_get h hl
      · have e1 := app_t_other (s := s) ht
        have e2 := app_t_other (s := s') ht
        cases f i <;> cases g i <;> simp only [Bool.false_eq_true, if_false, if_true, e1, e2, h, hl] <;> exact ⟨trivial, trivial⟩
    exact comb_t l rs f g (i + 1) _ _ step.1 step.2 fun j o' r' h1 h2 h3 => by
      have := hw (j + 1) o' r' (by simpa using h1) (by simpa using h2) h3
      rw [show i + 1 + j = i + (j + 1) by omega]
      exact this
theorem comb_len {N0 : Nat} : ∀ (l : List Oper) (rs : List Rec) (f : Nat → Bool) (i : Nat) (s : St), (∀ r ∈ rs, RecB N0 r) → N0 ≤ s.m.length → N0 ≤ (comb l rs f i s).m.length
  | [], _, _, _, _, _, h => h
  | _ :: _, [], _, _, _, _, h => h
  | o :: l, r :: rs, f, i, s, hB, h => by
    unfold comb
    refine comb_len l rs f (i + 1) _ (fun q hq => hB q (by simp [hq])) ?_
    split
    · exact app_len (hB r (by simp)) h
    · exact h
theorem comb_m {N0 : Nat} {ft : Foot} (hf : FootB N0 ft) : ∀ (l : List Oper) (rs : List Rec) (f g : Nat → Bool) (i : Nat) (s s' : St), (∀ r ∈ rs, RecB N0 r) → N0 ≤ s.m.length → N0 ≤ s'.m.length → ft.rel s.m s'.m →
    (∀ j o r, l[j]? = some o → rs[j]? = some r → hits (wrOf r) ft = true → f (i + j) = g (i + j)) → ft.rel (comb l rs f i s).m (comb l rs g i s').m
  | [], _, _, _, _, _, _, _, _, _, h, _ => h
  | o :: l, [], _, _, _, _, _, _, _, _, h, _ => h
  | o :: l, r :: rs, f, g, i, s, s', hB, hl, hl', h, hw => by
    unfold comb
    have hBr := hB r (by simp)
    have len : ∀ (b : Bool) (s : St), N0 ≤ s.m.length → N0 ≤ (if b then s.appR o.dst r else s).m.length := fun b s hs => by
      cases b
      · exact hs
      · exact app_len hBr hs
    have step : ft.rel (if f i then s.appR o.dst r else s).m (if g i then s'.appR o.dst r else s').m := by
      cases hh : hits (wrOf r) ft with
      | true =>
        have := hw 0 o r rfl rfl hh
        rw [Nat.add_zero] at this
        rw [this]
        cases g i
        · exact h
        · exact rel_both hf hl hl' h
      | false =>
        have e1 := rel_one (d := o.dst) hf hl hh
        have e2 := rel_one (d := o.dst) hf hl' hh
        cases f i <;> cases g i <;> simp only [Bool.false_eq_true, if_false, if_true]
        · exact h
        · exact Foot.rel_trans h (Foot.rel_symm e2)
        · exact Foot.rel_trans e1 h
        · exact Foot.rel_trans e1 (Foot.rel_trans h (Foot.rel_symm e2))
    exact comb_m hf l rs f g (i + 1) _ _ (fun q hq => hB q (by simp [hq])) (len _ s hl) (len _ s' hl') step fun j o' r' h1 h2 h3 => by
      have := hw (j + 1) o' r' (by simpa using h1) (by simpa using h2) h3
      rw [show i + 1 + j = i + (j + 1) by omega]
      exact this
theorem app_comm {N0 : Nat} {s : St} {d e : Option Tmp} {r q : Rec} (hr : RecB N0 r) (hq : RecB N0 q) (hl : N0 ≤ s.m.length) (h1 : ∀ x, tgtT d r = some x → tgtT e q ≠ some x) (h2 : meets (wrOf r) (wrOf q) = false) : (s.appR d r).appR e q = (s.appR e q).appR d r := by
  apply St.ext3
  · rw [app_t, app_t, app_t, app_t]
    cases r <;> cases d <;> cases q <;> cases e <;> first | rfl | skip
    rename_i rc _ x qc _ y
    have : x ≠ y := fun he => h1 x rfl (by simp [tgtT, he])
    exact List.set_comm _ _ this
  · rw [app_m', app_m', app_m', app_m']
    cases r with
    | pan v m => rfl
    | never => rfl
    | ok rc f =>
      cases q with
      | pan v m => rfl
      | never => rfl
      | ok qc g =>
        obtain ⟨v, e⟩ := rc
        obtain ⟨u, k⟩ := qc
        cases e with
        | none => rfl
        | one i b =>
          cases k with
          | none => rfl
          | one j c =>
            have : i ≠ j := fun he => by simp [wrOf, meets, he] at h2
            exact List.set_comm _ _ this
          | app bs =>
            have hi : i < N0 := hr.2
            simp only [effM]
            rw [List.set_append_left _ _ (by omega)]
          | kap j c =>
            have hi : i < N0 := hr.2
            have hij : i ≠ j := fun he => by simp [wrOf, meets, he] at h2
            simp only [effM]
            rw [List.set_append_left _ _ (by simp; omega), List.set_comm _ _ hij]
          | all m => simp [wrOf, meets] at h2
        | kap i b =>
          cases k with
          | none => rfl
          | one j c =>
            have hj : j < N0 := hq.2
            have hij : i ≠ j := fun he => by simp [wrOf, meets, he] at h2
            simp only [effM]
            rw [List.set_append_left _ _ (by simp; omega), List.set_comm _ _ hij]
          | app bs => simp [wrOf, meets] at h2
          | kap j c => simp [wrOf, meets] at h2
          | all m => simp [wrOf, meets] at h2
        | app bs =>
          cases k with
          | none => rfl
          | one j c =>
            have hj : j < N0 := hq.2
            simp only [effM]
            rw [List.set_append_left _ _ (by omega)]
          | app cs => simp [wrOf, meets] at h2
          | kap j c => simp [wrOf, meets] at h2
          | all m => simp [wrOf, meets] at h2
        | all m =>
          cases k with
          | none => rfl
          | one j c => simp [wrOf, meets] at h2
          | app cs => simp [wrOf, meets] at h2
          | kap j c => simp [wrOf, meets] at h2
          | all m => simp [wrOf, meets] at h2
  · rw [app_d, app_d, app_d, app_d]
theorem comb_app {N0 : Nat} {d : Option Tmp} {r : Rec} (hr : RecB N0 r) : ∀ (l : List Oper) (rs : List Rec) (f : Nat → Bool) (i : Nat) (s : St), (∀ q ∈ rs, RecB N0 q) → N0 ≤ s.m.length →
    (∀ j o q, l[j]? = some o → rs[j]? = some q → f (i + j) = true → (∀ x, tgtT d r = some x → tgtT o.dst q ≠ some x) ∧ meets (wrOf r) (wrOf q) = false) →
    comb l rs f i (s.appR d r) = (comb l rs f i s).appR d r
  | [], _, _, _, _, _, _, _ => rfl
  | _ :: _, [], _, _, _, _, _, _ => rfl
  | o :: l, q :: rs, f, i, s, hB, hl, hd => by
    unfold comb
    have hBq := hB q (by simp)
    have hd' : ∀ j o q, l[j]? = some o → rs[j]? = some q → f (i + 1 + j) = true → (∀ x, tgtT d r = some x → tgtT o.dst q ≠ some x) ∧ meets (wrOf r) (wrOf q) = false := fun j o' q' h1 h2 h3 => by
      have := hd (j + 1) o' q' (by simpa using h1) (by simpa using h2) (by rw [show i + (j + 1) = i + 1 + j by omega]; exact h3)
      exact this
    cases hf : f i with
    | false => simp only [Bool.false_eq_true, if_false]; exact comb_app hr l rs f (i + 1) s (fun x hx => hB x (by simp [hx])) hl hd'
    | true =>
      simp only [if_true]
      obtain ⟨h1, h2⟩ := hd 0 o q rfl rfl (by rw [Nat.add_zero]; exact hf)
      rw [app_comm hr hBq hl h1 h2]
      exact comb_app hr l rs f (i + 1) _ (fun x hx => hB x (by simp [hx])) (app_len hBq hl) hd'
/-- one more has come -/
theorem comb_add {N0 : Nat} {k : Nat} {o : Oper} {r : Rec} : ∀ (l : List Oper) (rs : List Rec) (f g : Nat → Bool) (i : Nat) (s : St), (∀ q ∈ rs, RecB N0 q) → N0 ≤ s.m.length → l[k]? = some o → rs[k]? = some r → f (i + k) = false → g (i + k) = true → (∀ j, j ≠ i + k → g j = f j) →
    (∀ j o' q, k < j → l[j]? = some o' → rs[j]? = some q → f (i + j) = true → (∀ x, tgtT o.dst r = some x → tgtT o'.dst q ≠ some x) ∧ meets (wrOf r) (wrOf q) = false) →
    comb l rs g i s = (comb l rs f i s).appR o.dst r := by
  induction k with
  | zero =>
    intro l rs f g i s hB hlen hl hr hf hg hfg hd
    cases l with
    | nil => cases hl
    | cons o1 l =>
      cases rs with
      | nil => cases hr
      | cons r1 rs =>
        simp only [List.getElem?_cons_zero, Option.some.injEq] at hl hr
        subst hl; subst hr
        rw [Nat.add_zero] at *
        unfold comb
        rw [hf, hg]
        simp only [Bool.false_eq_true, if_false, if_true]
        have e1 : comb l rs g (i + 1) (s.appR o1.dst r1) = comb l rs f (i + 1) (s.appR o1.dst r1) := by
          clear hd hf hg
          have gen : ∀ (l : List Oper) (rs : List Rec) (m : Nat) (s : St), i < m → comb l rs g m s = comb l rs f m s := by
            intro l
            induction l with
            | nil => intros; rfl
            | cons o l ih =>
              intro rs m s hm
              cases rs with
              | nil => rfl
              | cons r rs =>
                unfold comb
                rw [hfg m (by omega)]
                exact ih rs (m + 1) _ (by omega)
          exact gen l rs (i + 1) _ (by omega)
        rw [e1]
        exact comb_app (hB r1 (by simp)) l rs f (i + 1) s (fun x hx => hB x (by simp [hx])) hlen fun j o' q h1 h2 h3 => hd (j + 1) o' q (by omega) (by simpa using h1) (by simpa using h2) (by rw [show i + (j + 1) = i + 1 + j by omega]; exact h3)
  | succ k ih =>
    intro l rs f g i s hB hlen hl hr hf hg hfg hd
    cases l with
    | nil => cases hl
    | cons o1 l =>
      cases rs with
      | nil => cases hr
      | cons r1 rs =>
        unfold comb
        rw [hfg i (by omega)]
        refine ih l rs f g (i + 1) _ (fun x hx => hB x (by simp [hx])) ?_ (by simpa using hl) (by simpa using hr) ?_ ?_ (fun j hj => hfg j (by omega)) fun j o' q h0 h1 h2 h3 => hd (j + 1) o' q (by omega) (by simpa using h1) (by simpa using h2) (by rw [show i + (j + 1) = i + 1 + j by omega]; exact h3)
        · split
          · exact app_len (hB r1 (by simp)) hlen
          · exact hlen
        · rw [show i + 1 + k = i + (k + 1) by omega]; exact hf
        · rw [show i + 1 + k = i + (k + 1) by omega]; exact hg
end
end Go.SX

/-
  A symbolic executor: a region that draws its order is as the walk of the text's order shows.
-/
namespace Go.SX
open Go.RowKit

section
variable {E : Env} {P : Program} {rd : Rd} {ops : Array Oper} {Q : Exit → Act → World → Prop} {pre : List (List Nat)} {N0 : Nat}

def slotN (l : List Oper) (n k : Nat) : Nat := n + ((l.take k).filter fun o => isNew o.op).length
theorem comb_none : ∀ (l : List Oper) (rs : List Rec) (f : Nat → Bool) (i : Nat) (s : St), (∀ j, i ≤ j → f j = false) → comb l rs f i s = s
  | [], _, _, _, _, _ => rfl
  | _ :: _, [], _, _, _, _ => rfl
  | o :: l, r :: rs, f, i, s, h => by
    unfold comb
    rw [h i (Nat.le_refl _)]
    exact comb_none l rs f (i + 1) s fun j hj => h j (by omega)
theorem bad_keep {i : Nat} {x : Bad} {r : Rec} {b : Option Bad} (h : badStep i (some x) r = some b) : b = some x := by
  cases r <;> simp [badStep] at h <;> exact h.symm
theorem lexP_bad : ∀ (l : List Oper) (recs : List Rec) (i n : Nat) (x : Bad) (bad' : Option Bad) (s s' : St), LexP rd P ops N0 pre l recs i n (some x) bad' s s' → bad' = some x
  | [], _, _, _, _, _, _, _, h => h.2.1
  | _ :: l, _, _, _, x, bad', _, _, ⟨r, recs', b1, _, _, _, _, hb, h⟩ => by
    have := bad_keep hb
    subst this
    exact lexP_bad l _ _ _ x bad' _ _ h
theorem lexP_get : ∀ (l : List Oper) (recs : List Rec) (i n : Nat) (bad bad' : Option Bad) (s s' : St), LexP rd P ops N0 pre l recs i n bad bad' s s' →
    recs.length = l.length ∧ s' = comb l recs (fun _ => true) i s ∧ (∀ x, bad' = some x → bad = some x ∨ ∃ k, x.1 = i + k ∧ recs[k]? = some (.pan x.2.1 x.2.2)) ∧ (∀ r ∈ recs, RecB N0 r) ∧
    ∀ k o, l[k]? = some o → ∃ r, recs[k]? = some r ∧ RecOk rd P ops N0 (i + k) o (slotN l n k) (comb l recs (fun j => decide (j < i + k)) i s) r ∧
      (r = .never → ∃ x, bad' = some x ∧ x.1 ∈ preOf pre (i + k)) ∧ (∀ v m, r = .pan v m → bad' = some (i + k, v, m))
  | [], recs, i, n, bad, bad', s, s', ⟨h1, h2, h3⟩ => by
    subst h1; subst h2; subst h3
    exact ⟨rfl, rfl, fun x hx => .inl hx, fun r hr => (by cases hr), fun k o h => by simp at h⟩
  | o :: l, _, i, n, bad, bad', s, s', ⟨r, recs, b1, rfl, hnv, hrec, hrb, hb, h⟩ => by
    obtain ⟨h1, h2, h3, hBB, h4⟩ := lexP_get l recs _ _ _ _ _ _ h
    refine ⟨by simp [h1], ?_, ?_, fun q hq => by rcases List.mem_cons.1 hq with rfl | hq; exact hrb; exact hBB q hq, ?_⟩
    · rw [h2]
      exact (by rw [comb, if_pos rfl] : comb (o :: l) (r :: recs) (fun _ => true) i s = comb l recs (fun _ => true) (i + 1) (s.appR o.dst r)).symm
    · intro x hx
      rcases h3 x hx with h5 | ⟨k, h5, h6⟩
      · cases r with
        | ok rc f => simp only [badStep, Option.some.injEq] at hb; subst hb; exact .inl h5
        | never => simp only [badStep, Option.some.injEq] at hb; subst hb; exact .inl h5
        | pan v m =>
          cases bad with
          | none =>
            simp only [badStep, Option.some.injEq] at hb
            subst hb
            cases h5
            exact .inr ⟨0, rfl, rfl⟩
          | some y => simp [badStep] at hb
      · exact .inr ⟨k + 1, by omega, by simpa using h6⟩
    · intro k o' ho'
      cases k with
      | zero =>
        simp only [List.getElem?_cons_zero, Option.some.injEq] at ho'
        subst ho'
        refine ⟨r, rfl, ?_, ?_, ?_⟩
        · rw [Nat.add_zero, comb_none _ _ _ _ _ fun j hj => decide_eq_false (by omega)]
          simpa [slotN] using hrec
        · intro hr
          obtain ⟨j, v, h5, h6⟩ := hnv hr
          subst h5
          have := bad_keep hb
          subst this
          exact ⟨_, lexP_bad _ _ _ _ _ _ _ _ h, h6⟩
        · intro v m hv
          subst hv
          cases bad with
          | none =>
            simp only [badStep, Option.some.injEq] at hb
            subst hb
            exact lexP_bad _ _ _ _ _ _ _ _ h
          | some y => simp [badStep] at hb
      | succ k =>
        obtain ⟨r', h5, h6, h7, h8⟩ := h4 k o' (by simpa using ho')
        have e1 : i + 1 + k = i + (k + 1) := by omega
        refine ⟨r', by simpa using h5, ?_, by rw [← e1]; exact h7, by rw [← e1]; exact h8⟩
        rw [← e1]
        have e2 : comb (o :: l) (r :: recs) (fun j => decide (j < i + 1 + k)) i s = comb l recs (fun j => decide (j < i + 1 + k)) (i + 1) (s.appR o.dst r) := by
          rw [comb, if_pos (decide_eq_true (by omega))]
        have e3 : slotN (o :: l) n (k + 1) = slotN l (if isNew o.op then n + 1 else n) k := by
          unfold slotN
          rw [List.take_succ_cons, List.filter_cons]
          cases isNew o.op <;> simp
          omega
        rw [e2, e3]
        exact h6
theorem preB_get : ∀ (l : List Oper) (i : Nat), preB pre l i = true → ∀ k o, l[k]? = some o → (∀ e ∈ aftersOf o, e < i + k) ∧ ∀ p ∈ preOf pre (i + k), p ∈ aftersOf o ∨ ∃ q ∈ aftersOf o, p ∈ preOf pre q
  | [], _, _, k, o, h => by simp at h
  | o1 :: l, i, hB, k, o, h => by
    unfold preB at hB
    simp only [Bool.and_eq_true] at hB
    obtain ⟨⟨h1, h2⟩, h3⟩ := hB
    cases k with
    | zero =>
      simp only [List.getElem?_cons_zero, Option.some.injEq] at h
      subst h
      refine ⟨fun e he => ?_, fun p hp => ?_⟩
      · simpa using List.all_eq_true.1 h1 e he
      · have := List.all_eq_true.1 h2 p hp
        simp only [Bool.or_eq_true, List.contains_iff_mem, List.any_eq_true] at this
        exact this
    | succ k =>
      have := preB_get l (i + 1) h3 k o (by simpa using h)
      rw [show i + 1 + k = i + (k + 1) by omega] at this
      exact this
theorem pairB_get {o : Oper} {r : Rec} {i : Nat} : ∀ (l : List Oper) (rs : List Rec) (j : Nat), pairB ops pre o r i l rs j = true → ∀ k p q, l[k]? = some p → rs[k]? = some q → clash ops o p r q = true → i ∈ preOf pre (j + k)
  | [], _, _, _, k, p, q, h, _, _ => by simp at h
  | _ :: _, [], _, _, k, p, q, _, h, _ => by simp at h
  | p1 :: l, q1 :: rs, j, hB, k, p, q, hp, hq, hc => by
    unfold pairB at hB
    simp only [Bool.and_eq_true] at hB
    obtain ⟨h1, h2⟩ := hB
    cases k with
    | zero =>
      simp only [List.getElem?_cons_zero, Option.some.injEq] at hp hq
      subst hp; subst hq
      rw [hc] at h1
      simpa using h1
    | succ k =>
      have := pairB_get l rs (j + 1) h2 k p q (by simpa using hp) (by simpa using hq) hc
      rw [show j + 1 + k = j + (k + 1) by omega] at this
      exact this
theorem orderB_get : ∀ (l : List Oper) (rs : List Rec) (i : Nat), orderB ops pre l rs i = true → ∀ k d o r p q, l[k]? = some o → rs[k]? = some r → l[k + 1 + d]? = some p → rs[k + 1 + d]? = some q → clash ops o p r q = true → i + k ∈ preOf pre (i + (k + 1 + d))
  | [], _, _, _, k, d, o, r, p, q, h, _, _, _, _ => by simp at h
  | _ :: _, [], _, _, k, d, o, r, p, q, _, h, _, _, _ => by simp at h
  | o1 :: l, r1 :: rs, i, hB, k, d, o, r, p, q, ho, hr, hp, hq, hc => by
    unfold orderB at hB
    simp only [Bool.and_eq_true] at hB
    obtain ⟨h1, h2⟩ := hB
    cases k with
    | zero =>
      simp only [List.getElem?_cons_zero, Option.some.injEq] at ho hr
      subst ho; subst hr
      have := pairB_get l rs (i + 1) h1 d p q (by simpa [Nat.add_comm] using hp) (by simpa [Nat.add_comm] using hq) hc
      rw [show i + 1 + d = i + (0 + 1 + d) by omega] at this
      exact this
    | succ k =>
      have e : k + 1 + 1 + d = (k + 1 + d) + 1 := by omega
      rw [e] at hp hq
      have := orderB_get l rs (i + 1) h2 k d o r p q (by simpa using ho) (by simpa using hr) (by simpa using hp) (by simpa using hq) hc
      rw [show i + 1 + k = i + (k + 1) by omega, show i + 1 + (k + 1 + d) = i + (k + 1 + 1 + d) by omega] at this
      exact this
theorem slotN_lt {l : List Oper} {n i j : Nat} {o : Oper} (hij : i < j) (ho : l[i]? = some o) (hn : isNew o.op = true) : slotN l n i < slotN l n j := by
  unfold slotN
  have h1 : (l.take (i + 1)).filter (fun o => isNew o.op) = (l.take i).filter (fun o => isNew o.op) ++ [o] := by
    rw [List.take_add_one, ho, List.filter_append]
    simp [hn]
  have h2 : ((l.take (i + 1)).filter (fun o => isNew o.op)).length ≤ ((l.take j).filter (fun o => isNew o.op)).length := by
    apply List.Sublist.length_le
    apply List.Sublist.filter
    have : l.take (i + 1) = (l.take j).take (i + 1) := by rw [List.take_take, Nat.min_eq_left (by omega)]
    rw [this]
    exact List.take_sublist _ _
  rw [h1] at h2
  simp at h2
  omega
theorem cnt_set : ∀ (l : List Bool) (i : Nat), l[i]? = some false → (l.set i true).count false + 1 = l.count false
  | [], i, h => by simp at h
  | b :: l, 0, h => by simp at h; subst h; simp
  | b :: l, i + 1, h => by
    have := cnt_set l i (by simpa using h)
    simp only [List.set_cons_succ, List.count_cons]
    omega

structure Inv (E : Env) (ops : Array Oper) (recs : List Rec) (n0 : Nat) (s0 : St) (ρ : Ctx) (fuel : Nat) (listed : Array Bool) (a : Act) (w : World) : Prop where
  size : listed.size = ops.size
  cnt : listed.toList.count false = fuel
  closed : ∀ i o, ops[i]? = some o → listed.getD i false = true → ∀ e ∈ aftersOf o, listed.getD e false = true
  good : ∀ i r, recs[i]? = some r → listed.getD i false = true → ∃ rc ft, r = .ok rc ft
  rep : Rep E ρ (comb ops.toList recs (fun i => listed.getD i false) 0 s0) a w
  slot : ∀ k o r, ops[k]? = some o → recs[k]? = some r → isNew o.op = true → wrOf r ≠ .none → listed.getD k false = false → ρ.b (slotN ops.toList n0 k) = none

theorem afters_mem {o : Oper} {e : Nat} : e ∈ aftersOf o ↔ ∃ x ∈ o.after, Region.binds .any x = true ∧ x.on = e := by
  unfold aftersOf
  simp only [List.mem_map, List.mem_filter, Array.mem_toList_iff]
  constructor
  · rintro ⟨x, ⟨h1, h2⟩, h3⟩; exact ⟨x, h1, h2, h3⟩
  · rintro ⟨x, h1, h2, h3⟩; exact ⟨x, ⟨h1, h2⟩, h3⟩
theorem ready_iff {i : Nat} {listed : Array Bool} : i ∈ Region.ready .any ops listed ↔ listed.getD i true = false ∧ ∃ o, ops[i]? = some o ∧ ∀ e ∈ aftersOf o, listed.getD e false = true := by
  rw [mem_ready]
  constructor
  · rintro ⟨h0, o, ho, h⟩
    refine ⟨h0, o, ho, fun e he => ?_⟩
    obtain ⟨x, h1, h2, h3⟩ := afters_mem.1 he
    rw [← h3]
    exact h x h1 h2
  · rintro ⟨h0, o, ho, h⟩
    exact ⟨h0, o, ho, fun e he hb => h _ (afters_mem.2 ⟨e, he, hb, rfl⟩)⟩

theorem pre_in (hB : preB pre ops.toList 0 = true) {f : Nat → Bool} (hcl : ∀ i o, ops[i]? = some o → f i = true → ∀ e ∈ aftersOf o, f e = true) :
    ∀ i o, ops[i]? = some o → (∀ e ∈ aftersOf o, f e = true) → ∀ p ∈ preOf pre i, f p = true := by
  intro i
  induction i using Nat.strongRecOn with
  | _ i ih =>
    intro o ho hall p hp
    obtain ⟨h1, h2⟩ := preB_get _ _ hB i o (by simpa using ho)
    rw [Nat.zero_add] at h1 h2
    rcases h2 p hp with h3 | ⟨q, h3, h4⟩
    · exact hall p h3
    · have hq := h1 q h3
      have hlt : i < ops.size := (Array.getElem?_eq_some_iff.1 ho).1
      obtain ⟨oq, hoq⟩ : ∃ oq, ops[q]? = some oq := ⟨ops[q], Array.getElem?_eq_getElem (by omega)⟩
      exact ih q hq oq hoq (hcl q oq hoq (hall q h3)) p h4

theorem clash_tt {o p : Oper} {r q : Rec} {x : Nat} (h1 : tgtT o.dst r = some x) (h2 : x ∈ p.looksAt ops ∨ tgtT p.dst q = some x) : clash ops o p r q = true := by
  unfold clash
  rw [h1]
  rcases h2 with h2 | h2
  · simp [h2]
  · simp [h2]
theorem clash_lt {o p : Oper} {r q : Rec} {x : Nat} (h1 : tgtT p.dst q = some x) (h2 : x ∈ o.looksAt ops) : clash ops o p r q = true := by
  unfold clash
  rw [h1]
  simp [h2]
theorem clash_wf {o p : Oper} {r q : Rec} (h : hits (wrOf r) (footR q) = true) : clash ops o p r q = true := by
  unfold clash
  rw [h]
  simp
theorem clash_fw {o p : Oper} {r q : Rec} (h : hits (wrOf q) (footR r) = true) : clash ops o p r q = true := by
  unfold clash
  rw [h]
  simp
theorem clash_ww {o p : Oper} {r q : Rec} (h : meets (wrOf r) (wrOf q) = true) : clash ops o p r q = true := by
  unfold clash
  rw [h]
  simp
theorem newB_get : ∀ (l : List Oper) (rs : List Rec), newB l rs = true → ∀ k d r p, rs[k]? = some r → isAll r = true → k < l.length → l[k + 1 + d]? = some p → isNew p.op = false
  | [], _, _, k, d, r, p, _, _, h, _ => by simp at h
  | _ :: _, [], _, k, d, r, p, h, _, _, _ => by simp at h
  | o :: l, r1 :: rs, hB, k, d, r, p, hr, ha, hk, hp => by
    unfold newB at hB
    simp only [Bool.and_eq_true] at hB
    obtain ⟨h1, h2⟩ := hB
    cases k with
    | zero =>
      simp only [List.getElem?_cons_zero, Option.some.injEq] at hr
      subst hr
      rw [ha] at h1
      have h3 : l[d]? = some p := by simpa [Nat.add_comm] using hp
      simp only [Bool.not_true, Bool.false_or] at h1
      have := List.all_eq_true.1 h1 p (List.mem_of_getElem? h3)
      simpa using this
    | succ k =>
      have e : k + 1 + 1 + d = (k + 1 + d) + 1 := by omega
      rw [e] at hp
      exact newB_get l rs h2 k d r p (by simpa using hr) ha (by simpa using hk) (by simpa using hp)

theorem any_sound (hE : E.rd = rd) {recs : List Rec} {n0 : Nat} {bad : Option Bad} {s0 s1 : St} (hlex : LexP rd P ops N0 pre ops.toList recs 0 n0 none bad s0 s1) (hO : orderB ops pre ops.toList recs 0 = true) (hNB : newB ops.toList recs = true) (hN0 : N0 ≤ s0.m.length) (hsl : slotN ops.toList n0 ops.size ≤ N0) (hB : preB pre ops.toList 0 = true)
    (hfin : bad = none → ∀ ρ a w, Rep E ρ s1 a w → Q .normal a w)
    (hpan : ∀ x, bad = some x → ∀ f ρ a w, Rep E ρ (match x.2.2 with | none => comb ops.toList recs f 0 s0 | some m' => { comb ops.toList recs f 0 s0 with m := m' }) a w → Q (.panic [{ v := x.2.1, recovered := false }]) a w) :
    ∀ (fuel : Nat) (listed : Array Bool) (ρ : Ctx) (a : Act) (w : World), Inv E ops recs n0 s0 ρ fuel listed a w → wpAny P .any ops Q fuel listed a w := by
  obtain ⟨hlen, hs1, hbad, hBB, hget⟩ := lexP_get _ _ _ _ _ _ _ _ hlex
  have done : ∀ fuel listed ρ a w, Inv E ops recs n0 s0 ρ fuel listed a w → Region.ready .any ops listed = [] → Q .normal a w := by
    intro fuel listed ρ a w inv hr
    have all : ∀ i, i < ops.size → listed.getD i false = true := by
      intro i
      induction i using Nat.strongRecOn with
      | _ i ih =>
        intro hi
        cases hl : listed.getD i false with
        | true => rfl
        | false =>
          exfalso
          have hmem : i ∈ Region.ready .any ops listed := by
            rw [ready_iff]
            refine ⟨?_, ops[i], Array.getElem?_eq_getElem hi, fun e he => ?_⟩
            · have : i < listed.size := by rw [inv.size]; exact hi
              simp [this] at hl ⊢
              exact hl
            · have h1 := (preB_get _ _ hB i ops[i] (by simp [hi])).1 e he
              rw [Nat.zero_add] at h1
              exact ih e h1 (by omega)
          rw [hr] at hmem
          cases hmem
    have hnb : bad = none := by
      cases hb : bad with
      | none => rfl
      | some x =>
        exfalso
        rcases hbad x hb with h | ⟨k, h1, h2⟩
        · cases h
        · have hk : k < recs.length := (List.getElem?_eq_some_iff.1 h2).1
          obtain ⟨rc, ft, h3⟩ := inv.good k _ h2 (all k (by rw [hlen] at hk; simpa using hk))
          cases h3
    refine hfin hnb ρ a w ?_
    have hrep := inv.rep
    rw [hs1]
    have : comb ops.toList recs (fun i => listed.getD i false) 0 s0 = comb ops.toList recs (fun _ => true) 0 s0 := by
      have hcong : ∀ (l : List Oper) (rs : List Rec) (i : Nat) (s : St), i + l.length ≤ ops.size → comb l rs (fun i => listed.getD i false) i s = comb l rs (fun _ => true) i s := by
        intro l
        induction l with
        | nil => intros; rfl
        | cons o l ih =>
          intro rs i s hle
          cases rs with
          | nil => rfl
          | cons r rs =>
            simp only [List.length_cons] at hle
            unfold comb
            show comb l rs _ (i + 1) (if listed.getD i false = true then s.appR o.dst r else s) = comb l rs _ (i + 1) (if true = true then s.appR o.dst r else s)
            rw [all i (by omega)]
            exact ih rs (i + 1) _ (by omega)
      exact hcong _ _ 0 s0 (by simp)
    rw [← this]
    exact hrep
  intro fuel
  induction fuel with
  | zero =>
    intro listed ρ a w inv
    have hr : Region.ready .any ops listed = [] := by
      rw [List.eq_nil_iff_forall_not_mem]
      intro i hi
      have h0 := (ready_iff.1 hi).1
      have hc := inv.cnt
      rw [List.count_eq_zero] at hc
      apply hc
      rcases Nat.lt_or_ge i listed.size with hlt | hge
      · simp [hlt] at h0
        rw [← h0]
        simp
      · simp [Array.getElem?_eq_none hge] at h0
    exact ⟨hr, done 0 listed ρ a w inv hr⟩
  | succ fuel ih =>
    intro listed ρ a w inv
    refine ⟨done _ listed ρ a w inv, fun i hi => ?_⟩
    obtain ⟨hun, o, ho, haft⟩ := ready_iff.1 hi
    have hio : i < ops.size := (Array.getElem?_eq_some_iff.1 ho).1
    have hil : i < listed.size := by rw [inv.size]; exact hio
    have hunf : listed.getD i false = false := by simp [hil] at hun ⊢; exact hun
    obtain ⟨r, hr1, hrec, hnv, hpv⟩ := hget i o (by simpa using ho)
    rw [Nat.zero_add] at hrec hnv hpv
    have hpre := pre_in hB inv.closed i o ho haft
    have hpreL : ∀ j p, ops[j]? = some p → listed.getD j false = true → i ∉ preOf pre j := fun j p hp hl hmem => by
      have := pre_in hB inv.closed j p hp (inv.closed j p hp hl) i hmem
      rw [hunf] at this
      cases this
    have before : ∀ j p q, ops[j]? = some p → recs[j]? = some q → j < i → clash ops p o q r = true → listed.getD j false = true := fun j p q hp hq hji hc => by
      obtain ⟨d, rfl⟩ : ∃ d, i = j + 1 + d := ⟨i - j - 1, by omega⟩
      have := orderB_get _ _ _ hO j d p q o r (by simpa using hp) hq (by simpa using ho) hr1 hc
      rw [Nat.zero_add, Nat.zero_add] at this
      exact hpre j this
    have behind : ∀ j p q, ops[j]? = some p → recs[j]? = some q → i < j → clash ops o p r q = true → listed.getD j false = false := fun j p q hp hq hij hc => by
      obtain ⟨d, rfl⟩ : ∃ d, j = i + 1 + d := ⟨j - i - 1, by omega⟩
      have h1 := orderB_get _ _ _ hO i d o r p q (by simpa using ho) hr1 (by simpa using hp) hq hc
      rw [Nat.zero_add, Nat.zero_add] at h1
      cases hl : listed.getD (i + 1 + d) false with
      | false => rfl
      | true => exact absurd h1 (hpreL _ p hp hl)
    have side : ∀ j p q, ops[j]? = some p → recs[j]? = some q → (j < i → clash ops p o q r = true) → (i < j → clash ops o p r q = true) → listed.getD j false = decide (j < i) := fun j p q hp hq h1 h2 => by
      rcases Nat.lt_trichotomy j i with h | h | h
      · rw [before j p q hp hq h (h1 h), decide_eq_true h]
      · subst h; rw [hunf, decide_eq_false (by omega)]
      · rw [behind j p q hp hq h (h2 h), decide_eq_false (by omega)]
    have agree : ∀ foot, FootB N0 foot → (∀ W, hits W foot = true → hits W (footR r) = true) → Agree ops o foot (comb ops.toList recs (fun j => decide (j < i)) 0 s0) (comb ops.toList recs (fun i => listed.getD i false) 0 s0) := fun foot hfb hfoot => by
      refine ⟨fun x hx => ?_, ?_⟩
      · refine (comb_t _ _ _ _ 0 s0 s0 rfl rfl fun j p q hp hq ht => ?_).1
        rw [Nat.zero_add]
        refine side j p q (by simpa using hp) hq (fun _ => ?_) (fun _ => ?_)
        · exact clash_tt ht (.inl hx)
        · exact clash_lt ht hx
      · have hrel : foot.rel (comb ops.toList recs (fun i => listed.getD i false) 0 s0).m (comb ops.toList recs (fun j => decide (j < i)) 0 s0).m := by
          refine comb_m hfb _ _ _ _ 0 s0 s0 hBB hN0 hN0 ?_ fun j p q hp hq ht => ?_
          · cases foot <;> first | exact fun _ _ => rfl | exact ⟨rfl, rfl⟩ | rfl
          · rw [Nat.zero_add]
            exact side j p q (by simpa using hp) hq (fun _ => clash_wf (hfoot _ ht)) (fun _ => clash_fw (hfoot _ ht))
        cases foot <;> exact hrel
    have hBr := hBB r (List.mem_of_getElem? hr1)
    cases r with
    | never =>
      exfalso
      obtain ⟨x, h1, h2⟩ := hnv rfl
      rcases hbad x h1 with h | ⟨k, h3, h4⟩
      · cases h
      · rw [Nat.zero_add] at h3
        have h5 := hpre _ h2
        rw [h3] at h5
        obtain ⟨rc, ft, h6⟩ := inv.good k _ h4 h5
        cases h6
    | pan v m =>
      refine hrec E Q hE _ (agree (footPan m) ?_ (fun _ h => h)) ρ a w _ inv.rep fun ρ' a' w' hr' => ?_
      · cases m
        · exact fun b hb => by cases hb
        · trivial
      · have := hpan _ (hpv v m rfl) (fun i => listed.getD i false) ρ' a' w'
        cases m with
        | none => exact this hr'
        | some m' => exact this hr'
    | ok rc ft =>
      refine hrec E Q hE _ (agree ft hBr.1 (fun _ h => h)) (comb_len _ _ _ _ _ hBB hN0) ρ a w _ inv.rep (fun hn he => inv.slot i o _ ho hr1 hn (fun h => he (by unfold wrOf at h; simp only at h; split at h <;> first | assumption | cases h)) hunf) fun ρ' a' w' hr' hslot => ih _ ρ' a' w' ?_
      have hgetset : ∀ j, (listed.setIfInBounds i true).getD j false = if j = i then true else listed.getD j false := fun j => by
        by_cases hj : j = i
        · subst hj; simp [hil]
        · rw [if_neg hj, getD_set_ne false (Ne.symm hj)]
      refine ⟨by simp [inv.size], ?_, ?_, ?_, ?_, ?_⟩
      · have h1 : listed.toList[i]? = some false := by
          simp [hil] at hunf
          simp [hil, hunf]
        have := cnt_set _ _ h1
        have hc := inv.cnt
        rw [Array.toList_setIfInBounds]
        omega
      · intro j p hp hl e he
        rw [hgetset] at hl ⊢
        split
        · rfl
        · split at hl
          · rename_i hj
            subst hj
            rw [ho] at hp
            cases hp
            exact haft e he
          · exact inv.closed j p hp hl e he
      · intro j q hq hl
        rw [hgetset] at hl
        split at hl
        · rename_i hj
          subst hj
          rw [hr1] at hq
          cases hq
          exact ⟨_, _, rfl⟩
        · exact inv.good j q hq hl
      · have e : comb ops.toList recs (fun j => (listed.setIfInBounds i true).getD j false) 0 s0 = (comb ops.toList recs (fun i => listed.getD i false) 0 s0).appR o.dst (.ok rc ft) := by
          refine comb_add (N0 := N0) (k := i) _ _ _ _ 0 s0 hBB hN0 (by simpa using ho) hr1 (by rw [Nat.zero_add]; exact hunf) (by rw [Nat.zero_add, hgetset, if_pos rfl]) (fun j hj => by rw [Nat.zero_add] at hj; rw [hgetset, if_neg hj]) fun j p q hij hp hq hl => ?_
          rw [Nat.zero_add] at hl
          refine ⟨fun x hx hx2 => ?_, ?_⟩
          · rw [behind j p q (by simpa using hp) hq hij (clash_tt hx (.inr hx2))] at hl
            cases hl
          · cases hm : meets (wrOf (.ok rc ft)) (wrOf q) with
            | false => rfl
            | true =>
              rw [behind j p q (by simpa using hp) hq hij (clash_ww hm)] at hl
              cases hl
        rw [e]
        exact hr'
      · intro k p q hp hq hn hwr hl
        rw [hgetset] at hl
        split at hl
        · cases hl
        · rename_i hki
          have hkz : k < ops.size := (Array.getElem?_eq_some_iff.1 hp).1
          refine hslot (fun m' hall => ?_) _ ?_ (inv.slot k p q hp hq hn hwr hl) fun hno => ?_
          · rcases Nat.lt_or_ge k i with h | h
            · have hm : meets (wrOf q) (wrOf (.ok rc ft)) = true := by
                have e : wrOf (.ok rc ft) = .all := by unfold wrOf; simp only; rw [hall]
                rw [e]
                cases hq2 : wrOf q <;> first | rfl | exact absurd hq2 hwr
              have := before k p q hp hq h (clash_ww hm)
              rw [hl] at this
              cases this
            · obtain ⟨d, rfl⟩ : ∃ d, k = i + 1 + d := ⟨k - i - 1, by omega⟩
              have hisall : isAll (.ok rc ft) = true := by
                show (match rc.eff with | .all _ => true | _ => false) = true
                rw [hall]
              have := newB_get _ _ hNB i d _ p hr1 hisall (by simpa using hio) (by simpa using hp)
              rw [hn] at this
              cases this
          · have h1 : slotN ops.toList n0 k < slotN ops.toList n0 ops.size := slotN_lt hkz (by simpa using hp) hn
            omega
          · rcases Nat.lt_trichotomy k i with h | h | h
            · exact Nat.ne_of_lt (slotN_lt h (by simpa using hp) hn)
            · exact absurd h hki
            · exact Nat.ne_of_gt (slotN_lt h (by simpa using ho) hno)
end
end Go.SX

/-
  A symbolic executor: regions, code.
-/
namespace Go.SX
open Go.RowKit

inductive Nx where
  | ok (s : St)
  | pan (v : SV) (s : St)
def addDead (n : Nat) (m : List Blk) : List Blk := m ++ List.replicate n .dead
def weakM : Rec → List Blk → List Blk
  | .ok r _, m => match r.eff with
    | .none => m
    | .one i _ => m.set i .dead
    | .app bs => m ++ List.replicate bs.length .dead
    | .kap i _ => m.set i .dead ++ [.dead]
    | .all m' => List.replicate (m.length + m'.length) .dead
  | _, m => m
/-- what is known whatever has come of the region -/
def weak : List Oper → List Rec → St → St
  | o :: l, r :: rs, s => weak l rs { t := match tgtT o.dst r with | some x => s.t.set x .any | none => s.t, m := weakM r s.m, d := s.d }
  | _, _, s => s

section
variable (P : Program) (rd : Rd) {β : Type}
def sxOne (call : CallK β) (o : Oper) (s : St) (k : Nx → Option β) : Option β :=
  match goCall o (evalS s) with
  | some (f, args) => call f args s.m fun out => match out.e with
    | .ret v => k (.ok (St.put { s with m := out.m } o.dst v))
    | .pan v => k (.pan v { s with m := out.m })
  | none => match goDefer o (evalS s) with
    | some d => k (.ok (St.put { s with d := d :: s.d } o.dst (.val undef)))
    | none => match goPanics o (evalS s) with
      | some v => k (.pan (.val v) s)
      | none => (sxVal P rd o (evalS s) s.m).k fun r => k (.ok (St.put { s with m := r.2 } o.dst r.1))
def sxOps (call : CallK β) (ops : Array Oper) (k : Ex → St → Option β) : List Oper → St → Option β
  | [], s => k .normal s
  | o :: rest, s => s.f fun s =>
    let run := fun (s : St) => sxOne P rd call o s fun nx => match nx with
      | .ok s' => sxOps call ops k rest s'
      | .pan v s' => k (.panic v) s'
    match o.guard with
    | none => run s
    | some (j, want) => match gate ops s j with
      | some (some b) => match want with
        | true => bif b then run (s.refine (gateT ops j) true) else sxOps call ops k rest ((s.refine (gateT ops j) false).put o.dst (.val undef))
        | false => bif b then sxOps call ops k rest ((s.refine (gateT ops j) true).put o.dst (.val undef)) else run (s.refine (gateT ops j) false)
      | some none => sxOps call ops k rest (s.put o.dst (.val undef))
      | none => none
def sxDraw (ic : ICall β) (call : CallK β) (ops : Array Oper) (s : St) (k : Ex → St → Option β) : Option β :=
  let l := ops.toList
  let K := (l.filter fun o => isNew o.op).length
  let s0 : St := { s with m := addDead K s.m }
  preF (mkPre l) fun pre => if preB pre l 0 then
    sxLex P rd ic call ops (s.m.length + K) pre (fun recs bad s1 => if orderB ops pre l recs 0 && newB l recs then match bad with
      | none => k .normal s1
      | some (_, v, none) => k (.panic (.val v)) (weak l recs s0)
      | some (_, v, some m') => k (.panic (.val v)) { weak l recs s0 with m := m' }
      else none) l 0 s.m.length [] none s0
  else none
/-- a frame: the function, the number of blocks when it was entered -/
abbrev Frm := FuncId × Nat
abbrev CodeK (β : Type) := Frm → Code → St → (Ex → St → Option β) → Option β
/-- what is known of loops: by the function, and the first region of the loop's body -/
abbrev Loops := FuncId → Nat → Option (Nat → St → R3 (Ex × St))
def frO : Code → Option Nat
  | .region id _ _ => some id
  | .seq a b => match frO a with
    | some n => some n
    | none => frO b
  | .cond _ a b => match frO a with
    | some n => some n
    | none => frO b
  | .block _ a => frO a
  | .loop a => frO a
  | .scope a => frO a
  | _ => none
def fr (c : Code) : Nat := (frO c).getD 0
def sxLoop (rec : CodeK β) (f : Frm) (c : Code) (k : Ex → St → Option β) (n : Nat) : St → Option β :=
  Nat.rec (fun _ => none) (fun _ ih s => rec f c s fun e s' => match e with
    | .normal => ih s'
    | e => k e s') n
def sxStep (lp : Loops) (ic : ICall β) (call : CallK β) (rec : CodeK β) : CodeK β := fun f c s k =>
  match c with
  | .skip => k .normal s
  | .region _ ops false => sxOps P rd call ops k ops.toList s
  | .region _ ops true => sxDraw P rd ic call ops s k
  | .seq a b => rec f a s fun e s' => match e with
    | .normal => rec f b s' k
    | e => k e s'
  | .cond c a b => match evalS s c with
    | .val (.bool t) => bif t then rec f a (s.refine (condT c) true) k else rec f b (s.refine (condT c) false) k
    | _ => none
  | .block id c => rec f c s fun e s' => match e with
    | .exit j => if j = id then k .normal s' else k (.exit j) s'
    | e => k e s'
  | .loop c => match lp f.1 (fr c) with
    | some h => s.f fun s => (h f.2 s).k fun r => r.2.f fun s' => k r.1 s'
    | none => sxLoop rec f c k 64 s
  | .exit id => k (.exit id) s
  | .label _ => k .normal s
  | .ret => k .ret s
  | _ => none
end

section
variable {E : Env} {P : Program} {rd : Rd} {ρ ρ' : Ctx} {s s' : St} {a : Act} {w w' : World} {v : SV} {u : Value} {β : Type} {out : β} {Q : Exit → Act → World → Prop}

/-- the program draws mixed orders, and its calls enter -/
structure POk (P : Program) : Prop where
  names : NamesOk P
  mixed : P.follows .mixedOrders = true
def ExQ (ρ : Ctx) (Q : Exit → Act → World → Prop) (a : Act) (w : World) : Ex → Prop
  | .normal => Q .normal a w
  | .exit i => Q (.exit i) a w
  | .ret => Q .ret a w
  | .panic v => ∀ u, v.R ρ u → Q (.panic [{ v := u, recovered := false }]) a w
/-- nothing is asked of the numbers but that those that came in remain -/
structure Lo (ρ ρ' : Ctx) : Prop where
def ExPost (E : Env) (ρ : Ctx) (e : Ex) (s' : St) (Q : Exit → Act → World → Prop) : Prop := ∀ ρ' a' w', Lo ρ ρ' → Rep E ρ' s' a' w' → ExQ ρ' Q a' w' e
/-- what came in has numbers below 'n' -/
structure Env.low (E : Env) (n : Nat) : Prop where
  b : ∀ i r : Nat, E.ρ0.b i = some r → i < n
  v : ∀ (i : Nat) (u : Value), E.ρ0.v i = some u → i < n
def Runs (P : Program) (rd : Rd) (n : Nat) (c : Code) (s : St) (e : Ex) (s' : St) : Prop := ∀ E, E.rd = rd → E.low n → ∀ ρ a w Q, Rep E ρ s a w → ExPost E ρ e s' Q → c.wp P Q a w
/-- a part of some code -/
inductive Sub : Code → Code → Prop
  | refl (c : Code) : Sub c c
  | seqL {c a b : Code} : Sub c a → Sub c (.seq a b)
  | seqR {c a b : Code} : Sub c b → Sub c (.seq a b)
  | condL {c a b : Code} {x : Operand} : Sub c a → Sub c (.cond x a b)
  | condR {c a b : Code} {x : Operand} : Sub c b → Sub c (.cond x a b)
  | block {c a : Code} {i : Nat} : Sub c a → Sub c (.block i a)
  | loop {c a : Code} : Sub c a → Sub c (.loop a)
  | scope {c a : Code} : Sub c a → Sub c (.scope a)
theorem Sub.trans {a b c : Code} (h : Sub a b) (k : Sub b c) : Sub a c := by
  induction k with
  | refl => exact h
  | seqL _ ih => exact .seqL ih
  | seqR _ ih => exact .seqR ih
  | condL _ ih => exact .condL ih
  | condR _ ih => exact .condR ih
  | block _ ih => exact .block ih
  | loop _ ih => exact .loop ih
  | scope _ ih => exact .scope ih
/-- a part of a function's code -/
def InF (P : Program) (f : FuncId) (c : Code) : Prop := ∃ fn body, P.funcs[f]? = some fn ∧ fn.body = some body ∧ Sub c body
theorem InF.sub {f : FuncId} {a b : Code} (h : InF P f b) (k : Sub a b) : InF P f a := by
  obtain ⟨fn, body, h1, h2, h3⟩ := h
  exact ⟨fn, body, h1, h2, k.trans h3⟩
def LoopsOk (P : Program) (rd : Rd) (lp : Loops) : Prop := ∀ f id h, lp f id = some h → ∀ c, InF P f (.loop c) → fr c = id → ∀ n s e s1, (h n s).res = some (e, s1) → Runs P rd n (.loop c) s e s1
def CodeOk (P : Program) (rd : Rd) (rec : CodeK β) : Prop := ∀ (f : Frm) c s k (out : β), InF P f.1 c → rec f c s k = some out → ∃ e s', k e s' = some out ∧ Runs P rd f.2 c s e s'
theorem ExPost.le {e : Ex} (h : ExPost E ρ e s Q) (hl : Lo ρ ρ') : ExPost E ρ' e s Q := fun ρ2 a w hl2 hr => h ρ2 a w ⟨⟩ hr

def NxPost (E : Env) (ρ : Ctx) (K : Act → World → Prop) (Q : Exit → Act → World → Prop) : Nx → Prop
  | .ok s' => ∀ ρ' a' w', Le ρ ρ' → Rep E ρ' s' a' w' → K a' w'
  | .pan v s' => ∀ ρ' a' w', Le ρ ρ' → Rep E ρ' s' a' w' → ∀ u, v.R ρ' u → Q (.panic [{ v := u, recovered := false }]) a' w'
theorem one_sound {call : CallK β} (hcall : CallOk rd P call) (hN : NamesOk P) {o : Oper} {k : Nx → Option β} (h : sxOne P rd call o s k = some out) :
    ∃ nx, k nx = some out ∧ ∀ E, E.rd = rd → ∀ ρ a w K Q, Rep E ρ s a w → NxPost E ρ K Q nx → o.wp P a w K Q := by
  unfold sxOne at h
  split at h
  · rename_i f args hg
    obtain ⟨hb, o2, h3, hc⟩ := hcall _ _ _ _ _ h
    have main : ∀ nx, (∀ E ρ a w K Q, Rep E ρ s a w → NxPost E ρ K Q nx → ∀ ρ' w', Le ρ ρ' → Mem E ρ' o2.m w' → OutOk ρ' o2 (fun
            | .returned v, w'' => K (a.put o.dst v) w''
            | .panicked chain, w'' => Q (.panic chain) a w''
            | .outgrown, _ => LetsOut Q) w') → ∀ E, E.rd = rd → ∀ ρ a w K Q, Rep E ρ s a w → NxPost E ρ K Q nx → o.wp P a w K Q := by
      intro nx hnx E hE ρ a w K Q hr hpost
      obtain ⟨us, h1, h2⟩ := call_run (P := P) (w := w) hN hr.eval hg hb
      unfold Oper.wp
      rw [h1]
      exact hc E hE ρ w us _ hr.m h2 fun ρ' w' hl hm => hnx E ρ a w K Q hr hpost ρ' w' hl hm
    split at h3
    · rename_i v hv
      refine ⟨_, h3, main _ fun E ρ a w K Q hr hpost ρ' w' hl hm => ?_⟩
      unfold OutOk
      rw [hv]
      intro u hu
      exact hpost ρ' _ _ hl (hr.put hl hu hm _)
    · rename_i v hv
      refine ⟨_, h3, main _ fun E ρ a w K Q hr hpost ρ' w' hl hm => ?_⟩
      unfold OutOk
      rw [hv]
      intro u hu
      exact hpost ρ' _ _ hl (hr.mem hl hm) u hu
  · split at h
    · rename_i d hd
      refine ⟨_, h, fun E _ ρ a w K Q hr hpost => ?_⟩
      obtain ⟨D, h1, h2⟩ := defer_run (P := P) (w := w) hr.eval hd
      unfold Oper.wp
      rw [h1]
      have hr2 : Rep E ρ { s with d := d :: s.d } { a with defers := D :: a.defers } w := ⟨hr.t, ⟨D, _, rfl, h2, hr.d⟩, hr.m⟩
      exact hpost ρ _ _ (Le.refl _) (hr2.skip _)
    · split at h
      · rename_i pv hpv
        refine ⟨_, h, fun E _ ρ a w K Q hr hpost => ?_⟩
        unfold Oper.wp
        rw [panics_run (P := P) (w := w) hr.eval hpv]
        exact hpost ρ _ _ (Le.refl _) hr _ rfl
      · obtain ⟨⟨v, m'⟩, h1, h2⟩ := R3.k_some _ _ _ h
        refine ⟨_, h2, fun E hE ρ a w K Q hr hpost => ?_⟩
        subst hE
        obtain ⟨nx, w', ρ', u, h3, h4, h5, h6, h7⟩ := val_sound (P := P) hr.m hr.eval h1
        unfold Oper.wp
        rw [h3]
        have := hpost ρ' _ _ h7 (hr.put h7 h5 h6 o.dst)
        rcases h4 with rfl | ⟨rfl, rfl⟩
        · exact this
        · exact this

theorem ops_sound {call : CallK β} (hcall : CallOk rd P call) (hN : NamesOk P) {ops : Array Oper} {k : Ex → St → Option β} :
    ∀ (l : List Oper) (s : St), sxOps P rd call ops k l s = some out → ∃ e s', k e s' = some out ∧ ∀ E, E.rd = rd → ∀ ρ a w Q, Rep E ρ s a w → ExPost E ρ e s' Q → wpList P ops Q l a w
  | [], s, h => ⟨.normal, s, h, fun E _ ρ a w Q hr hpost => hpost ρ a w ⟨⟩ hr⟩
  | o :: l, s, h => by
    have ih := ops_sound hcall hN (ops := ops) (k := k) l
    unfold sxOps at h
    rw [St.f_eq] at h
    simp only at h
    have run : (sxOne P rd call o s fun nx => match nx with
      | .ok s' => sxOps P rd call ops k l s'
      | .pan v s' => k (.panic v) s') = some out → ∃ e s', k e s' = some out ∧ ∀ E, E.rd = rd → ∀ ρ a w Q, Rep E ρ s a w → ExPost E ρ e s' Q → o.wp P a w (wpList P ops Q l) Q := fun h => by
      obtain ⟨nx, h1, h2⟩ := one_sound hcall hN h
      cases nx with
      | ok s1 =>
        obtain ⟨e, s', h3, h4⟩ := ih s1 h1
        exact ⟨e, s', h3, fun E hE ρ a w Q hr hpost => h2 E hE ρ a w _ Q hr fun ρ' a' w' hl hr' => h4 E hE ρ' a' w' Q hr' (hpost.le ⟨⟩)⟩
      | pan v s1 =>
        exact ⟨_, _, h1, fun E hE ρ a w Q hr hpost => h2 E hE ρ a w _ Q hr fun ρ' a' w' hl hr' => hpost ρ' a' w' ⟨⟩ hr'⟩
    have skip : sxOps P rd call ops k l (s.put o.dst (.val undef)) = some out → ∃ e s', k e s' = some out ∧ ∀ E, E.rd = rd → ∀ ρ a w Q, Rep E ρ s a w → ExPost E ρ e s' Q → wpList P ops Q l (a.put o.dst undef) w := fun h => by
      obtain ⟨e, s', h3, h4⟩ := ih _ h
      exact ⟨e, s', h3, fun E hE ρ a w Q hr hpost => h4 E hE ρ _ w Q (hr.skip _) hpost⟩
    split at h
    · rename_i hg
      obtain ⟨e, s', h1, h2⟩ := run h
      refine ⟨e, s', h1, fun E hE ρ a w Q hr hpost => ?_⟩
      unfold wpList
      rw [if_pos (by simp [Region.wanted, hg])]
      exact .inl (h2 E hE ρ a w Q hr hpost)
    · rename_i j want hg
      split at h
      · rename_i b hb
        have hrf := gate_refine hb
        have yes : b = want → (sxOne P rd call o s fun nx => match nx with
            | .ok s' => sxOps P rd call ops k l s'
            | .pan v s' => k (.panic v) s') = some out → ∃ e s', k e s' = some out ∧ ∀ E, E.rd = rd → ∀ ρ a w Q, Rep E ρ s a w → ExPost E ρ e s' Q → wpList P ops Q (o :: l) a w := fun hc h9 => by
          subst hc
          obtain ⟨e, s', h1, h2⟩ := run h9
          refine ⟨e, s', h1, fun E hE ρ a w Q hr hpost => ?_⟩
          have hy := gate_R hr hb
          unfold wpList
          rw [if_pos (by unfold Region.wanted; rw [hg]; simp only; rw [hy]; exact beq_self_eq_true _)]
          exact .inl (h2 E hE ρ a w Q hr hpost)
        have no : ¬ b = want → sxOps P rd call ops k l (s.put o.dst (.val undef)) = some out → ∃ e s', k e s' = some out ∧ ∀ E, E.rd = rd → ∀ ρ a w Q, Rep E ρ s a w → ExPost E ρ e s' Q → wpList P ops Q (o :: l) a w := fun hc h9 => by
          obtain ⟨e, s', h1, h2⟩ := skip h9
          refine ⟨e, s', h1, fun E hE ρ a w Q hr hpost => ?_⟩
          have hy := gate_R hr hb
          unfold wpList
          rw [if_neg (by unfold Region.wanted; rw [hg]; simp only; rw [hy]; intro h; exact hc (Option.some.inj (eq_of_beq h)))]
          exact h2 E hE ρ a w Q hr hpost
        cases want <;> cases b <;> simp only [cond_true, cond_false] at h <;> rw [hrf] at h
        · exact yes rfl h
        · exact no (by simp) h
        · exact no (by simp) h
        · exact yes rfl h
      · rename_i hb
        obtain ⟨e, s', h1, h2⟩ := skip h
        refine ⟨e, s', h1, fun E hE ρ a w Q hr hpost => ?_⟩
        have hy := gate_R hr hb
        unfold wpList
        rw [if_neg (by unfold Region.wanted; rw [hg]; simp only; rw [hy]; intro h; cases h)]
        exact h2 E hE ρ a w Q hr hpost
      · cases h

def Env.at (E : Env) (r : Ctx) : Env := { E with ρ0 := r }
theorem Mem.at {m : List Blk} (h : Mem E ρ m w) : Mem (E.at ρ) ρ m w :=
  ⟨h.dom, h.ok, h.lt, h.inj, h.own, ⟨h.kept.os, h.kept.tape, h.kept.output, h.kept.size, h.kept.block⟩, Le.refl _, fun _ _ h => .inl h, h.vdom, h.vok, h.vinj, h.zok, h.zown, h.zfro, fun _ _ _ h _ => h⟩
theorem Mem.back {m m0 : List Blk} {w0 : World} {r : Ctx} (h : Mem (E.at r) ρ m w) (hp : Mem E r m0 w0) : Le r ρ ∧ Mem E ρ m w :=
  ⟨h.pre, ⟨h.dom, h.ok, h.lt, h.inj, h.own, ⟨h.kept.os, h.kept.tape, h.kept.output, h.kept.size, h.kept.block⟩, hp.pre.trans h.pre, fun i x hx => (h.new i x hx).elim (hp.new i x) .inr, h.vdom, h.vok, h.vinj, h.zok, h.zown, h.zfro, fun i o x hx hr => hp.znew i o x (h.znew i o x hx hr) hr⟩⟩
theorem Mem.pad {m : List Blk} (h : Mem E ρ m w) (n : Nat) : Mem E ρ (addDead n m) w := by
  refine h.weaken (by unfold addDead; simp) fun x => ?_
  unfold addDead
  rcases Nat.lt_or_ge x m.length with hx | hx
  · exact .inl (List.getElem?_append_left hx)
  · rw [List.getElem?_append_right hx, List.getElem?_replicate]
    split
    · exact .inr rfl
    · exact .inl (List.getElem?_eq_none hx).symm

/-- less is known -/
structure Less (s s' : St) : Prop where
  tl : s'.t.length = s.t.length
  t : ∀ x : Nat, s'.t[x]? = s.t[x]? ∨ s'.t[x]? = some .any
  ml : s.m.length ≤ s'.m.length
  m : ∀ x : Nat, s'.m[x]? = s.m[x]? ∨ s'.m[x]? = some .dead
  d : s'.d = s.d
theorem Less.refl (s : St) : Less s s := ⟨rfl, fun _ => .inl rfl, Nat.le_refl _, fun _ => .inl rfl, rfl⟩
theorem RL_any {ρ : Ctx} : ∀ {l l' : List SV} {us : List Value}, SV.RL ρ l us → l'.length = l.length → (∀ x : Nat, l'[x]? = l[x]? ∨ l'[x]? = some .any) → SV.RL ρ l' us
  | [], [], _, h, _, _ => h
  | [], _ :: _, _, _, h, _ => by simp at h
  | _ :: _, [], _, _, h, _ => by simp at h
  | x :: l, y :: l', _, ⟨u, us', h1, h2, h3⟩, hl, hx => by
    refine ⟨u, us', h1, ?_, RL_any h3 (by simpa using hl) fun i => by have := hx (i + 1); simpa using this⟩
    rcases hx 0 with h | h
    · simp at h; rw [h]; exact h2
    · simp at h; rw [h]; trivial
theorem Less.rep {s' : St} (h : Less s s') (hr : Rep E ρ s a w) : Rep E ρ s' a w := by
  obtain ⟨us, h1, h2⟩ := hr.t
  exact ⟨⟨us, h1, RL_any h2 h.tl h.t⟩, by rw [h.d]; exact hr.d, hr.m.weaken h.ml h.m⟩
theorem less_m (r : Rec) (d : Option Tmp) {s : St} {m1 : List Blk} (hl : s.m.length ≤ m1.length) (hm : ∀ x : Nat, m1[x]? = s.m[x]? ∨ m1[x]? = some .dead) (b : Bool) :
    (if b then s.appR d r else s).m.length ≤ (weakM r m1).length ∧ ∀ x : Nat, (weakM r m1)[x]? = (if b then s.appR d r else s).m[x]? ∨ (weakM r m1)[x]? = some .dead := by
  have hout : ∀ x, m1.length ≤ x → s.m[x]? = none := fun x hx => List.getElem?_eq_none (by omega)
  have plain : s.m.length ≤ m1.length ∧ ∀ x : Nat, m1[x]? = s.m[x]? ∨ m1[x]? = some .dead := ⟨hl, hm⟩
  cases r with
  | pan v m =>
    have : (if b then s.appR d (.pan v m) else s) = s := by cases b <;> rfl
    rw [this]; exact plain
  | never =>
    have : (if b then s.appR d .never else s) = s := by cases b <;> rfl
    rw [this]; exact plain
  | ok rc f =>
    obtain ⟨v, e⟩ := rc
    have hm2 : (if b then s.appR d (.ok ⟨v, e⟩ f) else s).m = if b then effM e s.m else s.m := by
      cases b
      · rfl
      · simp only [if_true]; rw [app_m']
    rw [hm2]
    cases e with
    | none => cases b <;> exact plain
    | one i bl =>
      refine ⟨by cases b <;> simp [weakM, effM] <;> exact hl, fun x => ?_⟩
      simp only [weakM]
      by_cases hx : i = x
      · subst hx
        by_cases hi : i < m1.length
        · exact .inr (by simp [hi])
        · refine .inl ?_
          rw [List.getElem?_eq_none (by simp; omega), List.getElem?_eq_none]
          cases b
          · simp only [Bool.false_eq_true, if_false]; omega
          · simp [effM]; omega
      · rw [List.getElem?_set_ne hx]
        cases b
        · exact hm x
        · simp only [if_true, effM]
          rw [List.getElem?_set_ne hx]
          exact hm x
    | app bs =>
      refine ⟨by cases b <;> simp [weakM, effM] <;> omega, fun x => ?_⟩
      simp only [weakM]
      rcases Nat.lt_or_ge x m1.length with hx | hx
      · rw [List.getElem?_append_left hx]
        rcases hm x with h1 | h1
        · rcases Nat.lt_or_ge x s.m.length with hy | hy
          · refine .inl (h1.trans ?_)
            cases b
            · rfl
            · simp only [if_true, effM]; rw [List.getElem?_append_left hy]
          · rw [List.getElem?_eq_getElem hx, List.getElem?_eq_none hy] at h1
            cases h1
        · exact .inr h1
      · rw [List.getElem?_append_right hx, List.getElem?_replicate]
        split
        · exact .inr rfl
        · refine .inl ?_
          rw [List.getElem?_eq_none]
          cases b
          · simp only [Bool.false_eq_true, if_false]; omega
          · simp [effM]; omega
    | kap i bl =>
      refine ⟨by cases b <;> simp [weakM, effM] <;> omega, fun x => ?_⟩
      simp only [weakM]
      rcases Nat.lt_or_ge x m1.length with hx | hx
      · rw [List.getElem?_append_left (by simpa using hx)]
        by_cases hi : i = x
        · subst hi
          exact .inr (by simp [hx])
        · rw [List.getElem?_set_ne hi]
          rcases hm x with h1 | h1
          · rcases Nat.lt_or_ge x s.m.length with hy | hy
            · refine .inl (h1.trans ?_)
              cases b
              · rfl
              · simp only [if_true, effM]; rw [List.getElem?_append_left (by simpa using hy), List.getElem?_set_ne hi]
            · rw [List.getElem?_eq_getElem hx, List.getElem?_eq_none hy] at h1
              cases h1
          · exact .inr h1
      · rw [List.getElem?_append_right (by simpa using hx)]
        by_cases hx2 : x = m1.length
        · subst hx2
          exact .inr (by simp)
        · refine .inl ?_
          rw [List.getElem?_eq_none (by simp; omega), List.getElem?_eq_none]
          cases b
          · simp only [Bool.false_eq_true, if_false]; omega
          · simp [effM]; omega
    | all m' =>
      refine ⟨by cases b <;> simp [weakM, effM] <;> omega, fun x => ?_⟩
      simp only [weakM, List.getElem?_replicate]
      split
      · exact .inr rfl
      · refine .inl ?_
        rw [List.getElem?_eq_none]
        cases b
        · simp only [Bool.false_eq_true, if_false]; omega
        · simp [effM]; omega
theorem less_comb : ∀ (l : List Oper) (rs : List Rec) (f : Nat → Bool) (i : Nat) (s s1 : St), Less s s1 → Less (comb l rs f i s) (weak l rs s1)
  | [], _, _, _, _, _, h => h
  | _ :: _, [], _, _, _, _, h => h
  | o :: l, r :: rs, f, i, s, s1, h => by
    unfold comb weak
    refine less_comb l rs f (i + 1) _ _ ?_
    have hT : ∀ (d : Option Tmp) (t : List SV), (match tgtT d r with | some x => t.set x .any | none => t).length = t.length := fun d t => by split <;> simp
    have lt : (s.appR o.dst r).t.length = s.t.length := by
      rw [app_t]; cases r <;> cases o.dst <;> simp
    have both : ∀ b : Bool, Less (if b then s.appR o.dst r else s) { t := match tgtT o.dst r with | some x => s1.t.set x .any | none => s1.t, m := weakM r s1.m, d := s1.d } := fun b => by
      obtain ⟨hm1, hm2⟩ := less_m r o.dst h.ml h.m b
      refine ⟨?_, fun x => ?_, hm1, hm2, ?_⟩
      · show (match tgtT o.dst r with | some x => s1.t.set x .any | none => s1.t).length = _
        rw [hT, h.tl]; cases b
        · rfl
        · exact lt.symm
      · show (match tgtT o.dst r with | some x => s1.t.set x .any | none => s1.t)[x]? = _ ∨ (match tgtT o.dst r with | some x => s1.t.set x .any | none => s1.t)[x]? = _
        by_cases ht : tgtT o.dst r = some x
        · rw [ht]
          by_cases hx : x < s1.t.length
          · exact .inr (by simp [hx])
          · have h1 : x ≥ s.t.length := by rw [← h.tl]; omega
            refine .inl ?_
            rw [List.getElem?_eq_none (by simp; omega), List.getElem?_eq_none]
            cases b
            · exact h1
            · simp only [if_true]; rw [lt]; exact h1
        · have e1 : (match tgtT o.dst r with | some x => s1.t.set x .any | none => s1.t)[x]? = s1.t[x]? := by
            cases hh : tgtT o.dst r with
            | none => rfl
            | some y =>
              have : y ≠ x := fun e => ht (by rw [hh, e])
              simp [List.getElem?_set_ne this]
          have e2 := (app_t_other (s := s) ht).1
          rw [nth_eq, nth_eq] at e2
          rw [e1]
          cases b
          · exact h.t x
          · simp only [if_true]; rw [e2]; exact h.t x
      · cases b
        · exact h.d
        · simp only [if_true]; rw [app_d]; exact h.d
    exact both (f i)

theorem getD_replicate_false (m j : Nat) : (Array.replicate m false).getD j false = false := by
  rcases Nat.lt_or_ge j m with h | h
  · simp [h]
  · simp [h]
theorem draw_sound {ic : ICall β} (hic : ICallOk rd P ic) {call : CallK β} (hcall : CallOk rd P call) (hP : POk P) {id : Nat} {ops : Array Oper} {k : Ex → St → Option β} (h : sxDraw P rd ic call ops s k = some out) :
    ∃ e s', k e s' = some out ∧ ∀ n, Runs P rd n (.region id ops true) s e s' := by
  unfold sxDraw at h
  rw [preF_eq] at h
  simp only at h
  split at h
  · rename_i hB
    obtain ⟨recs, bad, s1, hlex, hfin⟩ := lex_sound hic hcall hP.names ops.toList 0 s.m.length [] none _ (fun j => by simp) h
    by_cases hO : (orderB ops (mkPre ops.toList) ops.toList recs 0 && newB ops.toList recs) = true
    · replace hfin := (if_pos hO).symm.trans hfin
      rw [Bool.and_eq_true] at hO
      have hlen0 : (addDead (ops.toList.filter fun o => isNew o.op).length s.m).length = s.m.length + (ops.toList.filter fun o => isNew o.op).length := by
        unfold addDead; simp
      have go : ∀ (e : Ex) (s' : St), (bad = none → e = .normal ∧ s' = s1) →
          (∀ x, bad = some x → e = .panic (.val x.2.1) ∧ s' = match x.2.2 with | none => weak ops.toList recs { s with m := addDead (ops.toList.filter fun o => isNew o.op).length s.m } | some m' => { weak ops.toList recs { s with m := addDead (ops.toList.filter fun o => isNew o.op).length s.m } with m := m' }) → ∀ n, Runs P rd n (.region id ops true) s e s' := by
        intro e s' hn hp n0 E hE _ ρ a w Q hr hpost
        refine wp_region_any hP.mixed ?_
        have hr0 : Rep (E.at ρ) ρ { s with m := addDead (ops.toList.filter fun o => isNew o.op).length s.m } a { w with drawn := w.drawn + 1 } := ⟨hr.t, hr.d, ((hr.m.pad _).drawn _).at⟩
        refine any_sound (E := E.at ρ) hE hlex hO.1 hO.2 (by rw [hlen0]; exact Nat.le_refl _) (by unfold slotN; rw [show ops.toList.take ops.size = ops.toList by rw [← Array.length_toList]; exact List.take_length]; exact Nat.le_refl _) hB (fun hb ρ' a' w' hr' => ?_) (fun x hx f ρ' a' w' hr' => ?_) ops.size (Array.replicate ops.size false) ρ a _ ⟨by simp, by simp, ?_, ?_, ?_, ?_⟩
        · obtain ⟨rfl, rfl⟩ := hn hb
          obtain ⟨h1, h2⟩ := hr'.m.back hr.m
          exact hpost ρ' a' w' ⟨⟩ ⟨hr'.t, hr'.d, h2⟩
        · obtain ⟨j, v, mo⟩ := x
          obtain ⟨rfl, rfl⟩ := hp _ hx
          have hls := less_comb ops.toList recs f 0 _ _ (Less.refl { s with m := addDead (ops.toList.filter fun o => isNew o.op).length s.m })
          cases mo with
          | none =>
            have hr2 := hls.rep hr'
            obtain ⟨h1, h2⟩ := hr2.m.back hr.m
            exact hpost ρ' a' w' ⟨⟩ ⟨hr2.t, hr2.d, h2⟩ _ rfl
          | some m' =>
            have hls2 : Less { comb ops.toList recs f 0 { s with m := addDead (ops.toList.filter fun o => isNew o.op).length s.m } with m := m' } { weak ops.toList recs { s with m := addDead (ops.toList.filter fun o => isNew o.op).length s.m } with m := m' } :=
              ⟨hls.tl, hls.t, Nat.le_refl _, fun _ => .inl rfl, hls.d⟩
            have hr2 := hls2.rep hr'
            obtain ⟨h1, h2⟩ := hr2.m.back hr.m
            exact hpost ρ' a' w' ⟨⟩ ⟨hr2.t, hr2.d, h2⟩ _ rfl
        · intro i o _ hl; rw [getD_replicate_false] at hl; cases hl
        · intro i o _ hl; rw [getD_replicate_false] at hl; cases hl
        · rw [comb_none _ _ _ _ _ fun j _ => getD_replicate_false _ _]
          exact hr0
        · intro k o r _ _ _ _ _
          exact hr.m.fresh (by unfold slotN; omega)
      cases bad with
      | none => exact ⟨_, _, hfin, go _ _ (fun _ => ⟨rfl, rfl⟩) (fun x hx => by cases hx)⟩
      | some jv =>
        obtain ⟨j, v, mo⟩ := jv
        cases mo with
        | none => exact ⟨_, _, hfin, go _ _ (fun hx => by cases hx) (fun x hx => by cases hx; exact ⟨rfl, rfl⟩)⟩
        | some m' => exact ⟨_, _, hfin, go _ _ (fun hx => by cases hx) (fun x hx => by cases hx; exact ⟨rfl, rfl⟩)⟩
    · replace hfin := (if_neg hO).symm.trans hfin
      cases hfin
  · cases h

theorem step_sound {ic : ICall β} {call : CallK β} (hic : ICallOk rd P ic) (hcall : CallOk rd P call) (hP : POk P) {rec : CodeK β} (hrec : CodeOk P rd rec) {lp : Loops} (hlp : LoopsOk P rd lp) : CodeOk P rd (sxStep P rd lp ic call rec) := by
  intro f c s k out hin h
  unfold sxStep at h
  split at h
  · exact ⟨_, _, h, fun E _ hlo ρ a w Q hr hpost => wp_skip (hpost ρ a w ⟨⟩ hr)⟩
  · rename_i id ops
    obtain ⟨e, s', h1, h2⟩ := ops_sound hcall hP.names _ _ h
    exact ⟨e, s', h1, fun E hE hlo ρ a w Q hr hpost => wp_region_list (h2 E hE ρ a w Q hr hpost)⟩
  · obtain ⟨e, s', h1, h2⟩ := draw_sound hic hcall hP h
    exact ⟨e, s', h1, h2 _⟩
  · rename_i x y
    obtain ⟨e1, s1, h1, h2⟩ := hrec _ _ _ _ _ (hin.sub (.seqL (.refl _))) h
    cases e1 with
    | normal =>
      obtain ⟨e, s', h3, h4⟩ := hrec _ _ _ _ _ (hin.sub (.seqR (.refl _))) h1
      exact ⟨e, s', h3, fun E hE hlo ρ a w Q hr hpost => wp_seq (h2 E hE hlo ρ a w _ hr fun ρ' a' w' hl hr' => h4 E hE hlo ρ' a' w' Q hr' (hpost.le ⟨⟩))⟩
    | exit i => exact ⟨_, _, h1, fun E hE hlo ρ a w Q hr hpost => wp_seq (h2 E hE hlo ρ a w _ hr hpost)⟩
    | ret => exact ⟨_, _, h1, fun E hE hlo ρ a w Q hr hpost => wp_seq (h2 E hE hlo ρ a w _ hr hpost)⟩
    | panic v => exact ⟨_, _, h1, fun E hE hlo ρ a w Q hr hpost => wp_seq (h2 E hE hlo ρ a w _ hr hpost)⟩
  · rename_i c x y
    split at h
    · rename_i t ht
      have hc : ∀ E ρ a w, Rep E ρ s a w → a.eval c = .bool t := fun E ρ a w hr => by
        have := hr.eval c
        rw [ht] at this
        exact this
      have hrf := cond_refine ht
      cases t <;> simp only [cond_true, cond_false] at h <;> rw [hrf] at h
      · obtain ⟨e, s', h1, h2⟩ := hrec _ _ _ _ _ (hin.sub (.condR (.refl _))) h
        exact ⟨e, s', h1, fun E hE hlo ρ a w Q hr hpost => wp_cond (hc E ρ a w hr) (h2 E hE hlo ρ a w Q hr hpost)⟩
      · obtain ⟨e, s', h1, h2⟩ := hrec _ _ _ _ _ (hin.sub (.condL (.refl _))) h
        exact ⟨e, s', h1, fun E hE hlo ρ a w Q hr hpost => wp_cond (hc E ρ a w hr) (h2 E hE hlo ρ a w Q hr hpost)⟩
    · cases h
  · rename_i id x
    obtain ⟨e1, s1, h1, h2⟩ := hrec _ _ _ _ _ (hin.sub (.block (.refl _))) h
    cases e1 with
    | normal => exact ⟨_, _, h1, fun E hE hlo ρ a w Q hr hpost => wp_block (h2 E hE hlo ρ a w _ hr hpost)⟩
    | exit i =>
      simp only at h1
      split at h1
      · rename_i hi
        subst hi
        exact ⟨_, _, h1, fun E hE hlo ρ a w Q hr hpost => wp_block (h2 E hE hlo ρ a w _ hr fun ρ' a' w' hl hr' => by
          show Exit.inBlock i Q (.exit i) a' w'
          simp only [Exit.inBlock, if_true]
          exact hpost ρ' a' w' ⟨⟩ hr')⟩
      · rename_i hi
        exact ⟨_, _, h1, fun E hE hlo ρ a w Q hr hpost => wp_block (h2 E hE hlo ρ a w _ hr fun ρ' a' w' hl hr' => by
          show Exit.inBlock id Q (.exit i) a' w'
          simp only [Exit.inBlock, hi, if_false]
          exact hpost ρ' a' w' ⟨⟩ hr')⟩
    | ret => exact ⟨_, _, h1, fun E hE hlo ρ a w Q hr hpost => wp_block (h2 E hE hlo ρ a w _ hr hpost)⟩
    | panic v => exact ⟨_, _, h1, fun E hE hlo ρ a w Q hr hpost => wp_block (h2 E hE hlo ρ a w _ hr hpost)⟩
  · rename_i x
    split at h
    · rename_i hh hl
      rw [St.f_eq] at h
      obtain ⟨⟨e, s'⟩, h1, h2⟩ := R3.k_some _ _ _ h
      rw [St.f_eq] at h2
      exact ⟨e, s', h2, hlp f.1 _ hh hl x hin rfl f.2 s e s' h1⟩
    have key : ∀ n s, sxLoop rec f x k n s = some out → ∃ e s', k e s' = some out ∧ ∀ E, E.rd = rd → E.low f.2 → ∀ ρ a w Q, Rep E ρ s a w → ExPost E ρ e s' Q → Code.rounds P x Q n a w := by
      intro n
      induction n with
      | zero => intro s h; cases h
      | succ n ih =>
        intro s h
        obtain ⟨e1, s1, h1, h2⟩ := hrec _ _ _ _ _ (hin.sub (.loop (.refl _))) h
        cases e1 with
        | normal =>
          obtain ⟨e, s', h3, h4⟩ := ih _ h1
          exact ⟨e, s', h3, fun E hE hlo ρ a w Q hr hpost => h2 E hE hlo ρ a w _ hr fun ρ' a' w' hl hr' => h4 E hE hlo ρ' a' w' Q hr' (hpost.le ⟨⟩)⟩
        | exit i => exact ⟨_, _, h1, fun E hE hlo ρ a w Q hr hpost => h2 E hE hlo ρ a w _ hr hpost⟩
        | ret => exact ⟨_, _, h1, fun E hE hlo ρ a w Q hr hpost => h2 E hE hlo ρ a w _ hr hpost⟩
        | panic v => exact ⟨_, _, h1, fun E hE hlo ρ a w Q hr hpost => h2 E hE hlo ρ a w _ hr hpost⟩
    obtain ⟨e, s', h1, h2⟩ := key 64 s h
    exact ⟨e, s', h1, fun E hE hlo ρ a w Q hr hpost => wp_loop_rounds 64 (h2 E hE hlo ρ a w Q hr hpost)⟩
  · exact ⟨_, _, h, fun E _ hlo ρ a w Q hr hpost => wp_exit (hpost ρ a w ⟨⟩ hr)⟩
  · exact ⟨_, _, h, fun E _ hlo ρ a w Q hr hpost => wp_label (hpost ρ a w ⟨⟩ hr)⟩
  · exact ⟨_, _, h, fun E _ hlo ρ a w Q hr hpost => wp_ret (hpost ρ a w ⟨⟩ hr)⟩
  · cases h
end
end Go.SX

/-
  A symbolic executor: functions, their results, deferred calls.
-/
namespace Go.SX
open Go.RowKit

def resVal (s : St) (P : Program) (rd : Rd) : ResultVar → Option SV
  | .tmp t => some ((nth s.t t).getD (.val undef))
  | .cell a t => match (sxLoad P rd t ((nth s.t a).getD (.val undef)) s.m) with
      | .ok (v, _) => some v
      | _ => none
/-- the mode of the frame below a deferred call -/
inductive Md where
  | ret
  | pan (v : Value)
  | gone (v : Value)
def isRecover (o : Oper) : Bool :=
  match o.op with
  | .call c => (match c.callee with | .builtin .recover => true | _ => false) && o.guard.isNone
  | _ => false

section
variable (P : Program) (rd : Rd) {β : Type}
def sxResults (s : St) (fn : Func) : Option SV :=
  match allSome (fn.results.toList.map (resVal s P rd)) with
  | some [v] => some v
  | some vs => some (.tup vs)
  | none => none
def Out.join (o : Out) (m : List Blk) : Out :=
  match o.e with
  | .ret v => match v.deep with
    | true => ⟨.ret v, m⟩
    | false => ⟨.ret (v.shift m.length), m ++ o.m.map (Blk.shift m.length)⟩
  | .pan v => match v.deep with
    | true => ⟨.pan v, m⟩
    | false => ⟨.pan (v.shift m.length), m ++ o.m.map (Blk.shift m.length)⟩

/-- a region of a deferred function -/
def sxOpsD (call : CallK β) (k : Ex → St → Md → Option β) : List Oper → St → Md → Option β
  | [], s, md => k .normal s md
  | o :: rest, s, md =>
    if isRecover o then match md with
      | .pan v => sxOpsD call k rest (s.put o.dst (.val v)) (.gone v)
      | md => sxOpsD call k rest (s.put o.dst (.val .nilIface)) md
    else match o.guard with
      | none => sxOne P rd call o s fun nx => match nx with
        | .ok s' => sxOpsD call k rest s' md
        | .pan v s' => k (.panic v) s' md
      | some _ => none
def hasRecover : Code → Bool
  | .region _ ops _ => ops.toList.any isRecover
  | .seq a b => hasRecover a || hasRecover b
  | .cond _ a b => hasRecover a || hasRecover b
  | .block _ a => hasRecover a
  | _ => false
abbrev CodeD (β : Type) := Frm → Code → St → Md → (Ex → St → Md → Option β) → Option β
def sxStepD (call : CallK β) (rec : CodeK β) (recD : CodeD β) : CodeD β := fun f c s md k =>
  if hasRecover c then match c with
    | .region _ ops false => sxOpsD P rd call k ops.toList s md
    | .seq a b => recD f a s md fun e s' md' => match e with
      | .normal => recD f b s' md' k
      | e => k e s' md'
    | .cond c a b => match evalS s c with
      | .val (.bool t) => bif t then recD f a (s.refine (condT c) true) md k else recD f b (s.refine (condT c) false) md k
      | _ => none
    | .block id c => recD f c s md fun e s' md' => match e with
      | .exit j => if j = id then k .normal s' md' else k (.exit j) s' md'
      | e => k e s' md'
    | _ => none
  else rec f c s fun e s' => k e s' md
def settleMd : Md → Md
  | .gone _ => .ret
  | m => m
/-- the deferred calls of a frame, the last one first -/
def sxDefers (recD : CodeD β) (fn : Func) (s0 : St) (kk : Out → Option β) : List SD → List Blk → Md → Option β
  | [], m, .ret => match sxResults P rd { s0 with m := m } fn with
    | some v => kk ⟨.ret v, m⟩
    | none => none
  | [], m, .pan v => kk ⟨.pan (.val v), m⟩
  | [], _, .gone _ => none
  | d :: ds, m, md => match P.funcs[d.f]? with
    | some g => match g.body with
      | some c => recD (d.f, m.length) c ⟨d.args ++ d.caps ++ List.replicate (g.ntmps - (d.args ++ d.caps).length) (.val undef), m, []⟩ md fun e s md' =>
        match s.d, e with
        | [], .normal => (match sxResults P rd s g with | some _ => sxDefers recD fn s0 kk ds s.m (settleMd md') | none => none)
        | [], .ret => (match sxResults P rd s g with | some _ => sxDefers recD fn s0 kk ds s.m (settleMd md') | none => none)
        | [], .panic v => match md', v.plain with
          | .ret, some u => sxDefers recD fn s0 kk ds s.m (.pan u)
          | _, _ => none
        | _, _ => none
      | none => none
    | none => none
def sxEnter (rec : CodeK β) (recD : CodeD β) : CallK β := fun f args m kk =>
  match P.funcs[f]? with
  | some fn => match fn.body with
    | some c => rec (f, m.length) c ⟨args ++ List.replicate (fn.ntmps - args.length) (.val undef), m, []⟩ fun e s => match e with
      | .normal => sxDefers P rd recD fn s kk s.d s.m .ret
      | .ret => sxDefers P rd recD fn s kk s.d s.m .ret
      | .panic v => match v.plain with
        | some u => sxDefers P rd recD fn s kk s.d s.m (.pan u)
        | none => none
      | .exit _ => none
    | none => none
  | none => none
/-- a table of contracts: on values that lead to no block of ours -/
abbrev PCon := FuncId → Option (List SV → R3 OutE)
def sxI (g : PCon) (rec : CodeK β) (recD : CodeD β) : ICall β := fun f args kk =>
  match g f with
  | some h => (h args).k fun e => kk ⟨e, []⟩
  | none => sxEnter P rd rec recD f args [] kk
/-- a value of a type, leading to no block of ours -/
def norm1 (m : List Blk) (t : TypeId) (x : SV) : Option SV :=
  match x.deep with
  | true => match x with
    | .val (.slice none 0 0) => match tyOf P 12 t with
      | some (.sl ty) => some (.dsl ty [])
      | _ => some x
    | x => some x
  | false => match x with
  | .ptr i 0 => match nth m i with
    | some (.cells cs e false) => match tyOf P 12 e with
      | some ty => match parseT ty m cs with
        | some (y, []) => some (.dpt ty y 0)
        | _ => none
      | none => none
    | _ => none
  | x => match tyOf P 12 t, x.cells with
    | some ty, some cs => match parseT ty m cs with
      | some (y, []) => match x with
        | .agg _ => some (.agg (flatT ty y))
        | .val (.agg _) => none
        | .val (.tuple _) => none
        | .tup _ => none
        | _ => match flatT ty y with
          | [v] => some v
          | _ => none
      | _ => none
    | _, _ => none
def normL (m : List Blk) : List TypeId → List SV → Option (List SV)
  | t :: ts, x :: xs => match norm1 P m t x, normL m ts xs with
    | some y, some ys => some (y :: ys)
    | _, _ => none
  | [], x :: xs => match norm1 P m 0 x, normL m [] xs with
    | some y, some ys => some (y :: ys)
    | _, _ => none
  | [], [] => some []
  | _ :: _, [] => none
def sxC (g : PCon) (rec : CodeK β) (recD : CodeD β) : CallK β := fun f args m kk =>
  match SV.deepL args with
  | true => sxI P rd g rec recD f args fun o => kk (o.join m)
  | false => match g f with
    | none => sxEnter P rd rec recD f args m kk
    | some h => match P.funcs[f]? with
      | none => none
      | some fn => lf Blk.f (frz m (reach m 6 args)) fun m' => match normL P m' fn.params.toList args with
        | none => none
        | some args' => match SV.deepL args' with
          | false => none
          | true => (h args').k fun e => match e with
            | .ret v => match v.deep with
              | true => kk ⟨.ret v, m'⟩
              | false => none
            | .pan v => match v.deep with
              | true => kk ⟨.pan v, m'⟩
              | false => none
/-- both walks, so many steps deep -/
def sxBoth (lp : Loops) (g : PCon) (n : Nat) : CodeK β × CodeD β :=
  Nat.rec (fun _ _ _ _ => none, fun _ _ _ _ _ => none) (fun _ r => (sxStep P rd lp (sxI P rd g r.1 r.2) (sxC P rd g r.1 r.2) r.1, sxStepD P rd (sxC P rd g r.1 r.2) r.1 r.2)) n
def sxFun (lp : Loops) (g : PCon) (n : Nat) : ICall β := fun f args kk => sxEnter P rd (sxBoth P rd lp g n).1 (sxBoth P rd lp g n).2 f args [] kk
end

section
variable {E : Env} {P : Program} {rd : Rd} {ρ ρ' : Ctx} {s s' : St} {a : Act} {w w' : World} {v : SV} {u : Value} {β : Type} {out : β} {Q : Exit → Act → World → Prop}

theorem allSome_cons {α : Type} {o : Option α} {l : List (Option α)} {r : List α} (h : allSome (o :: l) = some r) : ∃ x r', o = some x ∧ allSome l = some r' ∧ r = x :: r' := by
  cases o with
  | none => cases h
  | some x =>
    simp only [allSome, Option.map_eq_some_iff] at h
    obtain ⟨r', h1, h2⟩ := h
    exact ⟨x, r', rfl, h1, h2.symm⟩
theorem load_ok {t : TypeId} {x v : SV} {m m' : List Blk} {u : Value} (hM : Mem E ρ m w) (hx : x.R ρ u) (h : sxLoad P E.rd t x m = .ok (v, m')) :
    ∃ u', (Instr.loadAt t u).run P w = .ok u' w ∧ v.R ρ u' := by
  obtain ⟨u', h1, h2, _⟩ := load_sound (P := P) (v := v) (m' := m') hM.view hx (by rw [h]; rfl)
  exact ⟨u', h1, h2⟩
theorem asAddr_load {t : TypeId} {v u' : Value} (h : (Instr.loadAt t v).run P w = .ok u' w) : (do loadVar t (← asAddr v) : Sem Value).run P w = .ok u' w := by
  unfold Instr.loadAt at h
  cases v with
  | pointer o =>
    cases o with
    | some ad => simpa [Instr.sureAddr, asAddr] using h
    | none => simp [Instr.sureAddr, stuck, Sem.run] at h
  | _ => simp [Instr.sureAddr, stuck, Sem.run] at h
def resSem (tmps : Array Value) : ResultVar → Sem Value
  | .tmp t => pure (tmps.getD t undef)
  | .cell a t => do loadVar t (← asAddr (tmps.getD a undef))
theorem res_run (hr : Rep E ρ s a w) : ∀ (l : List ResultVar) (vs : List SV), allSome (l.map (resVal s P E.rd)) = some vs → ∃ us, (l.mapM (resSem a.tmps)).run P w = .ok us w ∧ SV.RL ρ vs us
  | [], vs, h => by
    simp only [List.map_nil, allSome, Option.some.injEq] at h
    subst h
    exact ⟨[], by simp, rfl⟩
  | r :: l, vs, h => by
    obtain ⟨x, vs', h1, h2, rfl⟩ := allSome_cons h
    obtain ⟨us, h3, h4⟩ := res_run hr l vs' h2
    have key : ∃ u, (resSem a.tmps r).run P w = .ok u w ∧ x.R ρ u := by
      cases r with
      | tmp t =>
        simp only [resVal, Option.some.injEq] at h1
        subst h1
        exact ⟨a.tmps.getD t undef, by simp [resSem], hr.eval (.tmp t)⟩
      | cell p t =>
        simp only [resVal] at h1
        split at h1
        · rename_i v' m' hv
          cases h1
          obtain ⟨u', h5, h6⟩ := load_ok (P := P) hr.m (hr.eval (.tmp p)) hv
          exact ⟨u', asAddr_load h5, h6⟩
        · cases h1
    obtain ⟨u, h5, h6⟩ := key
    refine ⟨u :: us, ?_, ⟨u, us, rfl, h6, h4⟩⟩
    simp only [List.mapM_cons, Sem.run_bind, h5, Result.andThen_ok, h3, Sem.run_pure]
theorem results_run {fn : Func} (hr : Rep E ρ s a w) (h : sxResults P E.rd s fn = some v) : ∃ u, (results fn a.tmps).run P w = .ok u w ∧ v.R ρ u := by
  have hmap : fn.results.mapM (resSem a.tmps) = List.toArray <$> fn.results.toList.mapM (resSem a.tmps) := Array.mapM_eq_mapM_toList
  have hres : (results fn a.tmps) = (do
      let vs ← fn.results.mapM (resSem a.tmps)
      pure (if h : vs.size = 1 then vs[0] else .tuple vs)) := by
    unfold results
    congr 1
  unfold sxResults at h
  cases hs : allSome (fn.results.toList.map (resVal s P E.rd)) with
  | none => rw [hs] at h; cases h
  | some vs =>
    rw [hs] at h
    obtain ⟨us, h1, h2⟩ := res_run hr _ _ hs
    have hrun : (results fn a.tmps).run P w = .ok (if h : us.toArray.size = 1 then us.toArray[0] else .tuple us.toArray) w := by
      rw [hres]
      simp only [Sem.run_bind, hmap, Sem.run_map, h1, Result.andThen_ok, Sem.run_pure]
    cases vs with
    | nil =>
      simp only [Option.some.injEq] at h
      subst h
      rw [SV.RL] at h2
      subst h2
      exact ⟨_, hrun, ⟨[], by simp, rfl⟩⟩
    | cons x l =>
      obtain ⟨u, us', rfl, h3, h4⟩ := h2
      cases l with
      | nil =>
        rw [SV.RL] at h4
        subst h4
        simp only [Option.some.injEq] at h
        subst h
        exact ⟨u, by rw [hrun]; simp, h3⟩
      | cons y l =>
        simp only [Option.some.injEq] at h
        subst h
        obtain ⟨u2, us2, rfl, h5, h6⟩ := h4
        exact ⟨_, hrun, ⟨u :: u2 :: us2, by simp, ⟨u, _, rfl, h3, ⟨u2, us2, rfl, h5, h6⟩⟩⟩⟩


def Md.to : Md → FrameMode
  | .ret => .returning
  | .pan v => .panicking [{ v := v, recovered := false }]
  | .gone v => .panicking [{ v := v, recovered := true }]
def ExQS (ρ : Ctx) (Q : Exit → Act → List Frame → World → Prop) (a : Act) (cs : List Frame) (w : World) : Ex → Prop
  | .normal => Q .normal a cs w
  | .exit i => Q (.exit i) a cs w
  | .ret => Q .ret a cs w
  | .panic v => ∀ u, v.R ρ u → Q (.panic [{ v := u, recovered := false }]) a cs w
def PostD (E : Env) (ρ : Ctx) (c₀ : Frame) (cs : List Frame) (e : Ex) (s' : St) (md' : Md) (Q : Exit → Act → List Frame → World → Prop) : Prop :=
  ∀ ρ' a' w', Lo ρ ρ' → Rep E ρ' s' a' w' → ExQS ρ' Q a' ({ c₀ with mode := md'.to } :: cs) w' e
def RunsD (P : Program) (rd : Rd) (n : Nat) (c : Code) (s : St) (md : Md) (e : Ex) (s' : St) (md' : Md) : Prop :=
  ∀ E, E.rd = rd → E.low n → ∀ ρ a w (c₀ : Frame) (cs : List Frame) Q, c₀.mode = md.to → Rep E ρ s a w → PostD E ρ c₀ cs e s' md' Q → c.wpS P Q a (c₀ :: cs) w
def CodeDOk (P : Program) (rd : Rd) (recD : CodeD β) : Prop := ∀ (f : Frm) c s md k (out : β), InF P f.1 c → recD f c s md k = some out → ∃ e s' md', k e s' md' = some out ∧ RunsD P rd f.2 c s md e s' md'
theorem frame_mode {c : Frame} {u : FrameMode} (h : c.mode = u) : ({ c with mode := u } : Frame) = c := by subst h; rfl
theorem PostD.next {c₀ : Frame} {cs : List Frame} {md1 md' : Md} {e : Ex} {Q : Exit → Act → List Frame → World → Prop} (h : PostD E ρ c₀ cs e s' md' Q) (hl : Lo ρ ρ') : PostD E ρ' { c₀ with mode := md1.to } cs e s' md' Q :=
  fun ρ2 a w hl2 hr => h ρ2 a w ⟨⟩ hr
def _root_.Go.Exit.inBlockS (id : Nat) (Q : Exit → Act → List Frame → World → Prop) : Exit → Act → List Frame → World → Prop
  | .exit id', a, cs, w => if id' = id then Q .normal a cs w else Q (.exit id') a cs w
  | e, a, cs, w => Q e a cs w
theorem wpS_block {id : Nat} {c : Code} {cs : List Frame} {Q : Exit → Act → List Frame → World → Prop} (h : c.wpS P (Exit.inBlockS id Q) a cs w) : (Code.block id c).wpS P Q a cs w := by
  intro b k hb hro
  obtain ⟨e, a₁, cs₁, w₁, hq, harr⟩ := h b (.inBlock id :: k) hb hro
  cases e with
  | normal => exact ⟨.normal, a₁, cs₁, w₁, hq, .head step_block (Steps.trans harr (.one step_inBlock))⟩
  | exit id' =>
    by_cases hid : id' = id
    · simp only [Exit.inBlockS, hid, if_true] at hq
      exact ⟨.normal, a₁, cs₁, w₁, hq, .head step_block (harr k (by simp [exitTo, hid]))⟩
    · simp only [Exit.inBlockS, hid, if_false] at hq
      refine ⟨.exit id', a₁, cs₁, w₁, hq, fun k' hk => .head step_block (harr k' ?_)⟩
      have : (id == id') = false := by simp; exact fun h => hid h.symm
      simp [exitTo, this, hk]
  | goto l => exact ⟨_, a₁, cs₁, w₁, hq, fun k' hk => .head step_block (harr k' (by simp [gotoIn, hk]))⟩
  | ret => exact ⟨_, a₁, cs₁, w₁, hq, .of_steps (.one step_block) harr⟩
  | panic ch => exact ⟨_, a₁, cs₁, w₁, hq, .of_steps (.one step_block) harr⟩
  | outgrown => exact ⟨_, a₁, cs₁, w₁, hq, .of_steps (b := b) (k := k) (cs := cs₁) (e := .outgrown) (.one step_block) harr⟩

theorem recover_run {o : Oper} (h : isRecover o = true) : o.guard = none ∧ (execOp a.eval o).run P w = .ok .recover w := by
  unfold isRecover at h
  split at h
  · rename_i c hop
    rw [Bool.and_eq_true] at h
    obtain ⟨h1, h2⟩ := h
    refine ⟨by simpa using h2, ?_⟩
    split at h1
    · rename_i hc
      simp [execOp, hop, resolve, hc, invoke, builtin]
    · cases h1
  · cases h
theorem opsD_sound {call : CallK β} (hcall : CallOk rd P call) (hN : NamesOk P) {ops : Array Oper} {k : Ex → St → Md → Option β} :
    ∀ (l : List Oper) (i : Nat) (s : St) (md : Md), (∀ j, l[j]? = ops[i + j]?) → sxOpsD P rd call k l s md = some out → ∃ e s' md', k e s' md' = some out ∧
      ∀ E, E.rd = rd → ∀ ρ a w (c₀ : Frame) (cs : List Frame) Q, c₀.mode = md.to → Rep E ρ s a w → PostD E ρ c₀ cs e s' md' Q → wpOpsS P ops Q (List.range' i l.length) a (c₀ :: cs) w
  | [], i, s, md, _, h => ⟨.normal, s, md, h, fun E _ ρ a w c₀ cs Q hm hr hpost => by
      have := hpost ρ a w ⟨⟩ hr
      rw [frame_mode hm] at this
      exact this⟩
  | o :: l, i, s, md, hl, h => by
    have h0 : ops[i]? = some o := by simpa using (hl 0).symm
    have ih := fun s md => opsD_sound hcall hN (ops := ops) (k := k) l (i + 1) s md (fun j => by have := hl (j + 1); simpa [Nat.add_assoc, Nat.add_comm 1 j] using this)
    unfold sxOpsD at h
    split at h
    · rename_i hrec
      split at h
      · rename_i v
        obtain ⟨e, s', md', h1, h2⟩ := ih _ _ h
        refine ⟨e, s', md', h1, fun E hE ρ a w c₀ cs Q hm hr hpost => ?_⟩
        obtain ⟨hg, hrun⟩ := recover_run (P := P) (a := a) (w := w) hrec
        rw [List.length_cons, List.range'_succ]
        simp only [wpOpsS, h0]
        rw [if_pos (by simp [Region.wanted, hg]), hrun]
        have hD : recoverD (c₀ :: cs) = some (v, { c₀ with mode := (Md.gone v).to } :: cs) := by
          have hm' : c₀.mode = .panicking [{ v := v, recovered := false }] := hm
          simp [recoverD, hm', Md.to]
        simp only [hD]
        exact h2 E hE ρ _ w _ cs Q rfl (hr.put (v := .val v) (m' := s.m) (Le.refl _) rfl hr.m o.dst) (hpost.next ⟨⟩)
      · rename_i md0 hne
        obtain ⟨e, s', md', h1, h2⟩ := ih _ _ h
        refine ⟨e, s', md', h1, fun E hE ρ a w c₀ cs Q hm hr hpost => ?_⟩
        obtain ⟨hg, hrun⟩ := recover_run (P := P) (a := a) (w := w) hrec
        rw [List.length_cons, List.range'_succ]
        simp only [wpOpsS, h0]
        rw [if_pos (by simp [Region.wanted, hg]), hrun]
        have hD : recoverD (c₀ :: cs) = none := by
          cases md with
          | ret => have hm' : c₀.mode = .returning := hm; simp [recoverD, hm']
          | pan v => exact absurd rfl (hne v)
          | gone v => have hm' : c₀.mode = .panicking [{ v := v, recovered := true }] := hm; simp [recoverD, hm']
        simp only [hD]
        exact h2 E hE ρ _ w c₀ cs Q hm (hr.put (v := .val .nilIface) (m' := s.m) (Le.refl _) rfl hr.m o.dst) hpost
    · split at h
      · rename_i hg
        have fin : ∀ nx : Nx, (∀ E, E.rd = rd → ∀ ρ a w K Q, Rep E ρ s a w → NxPost E ρ K Q nx → o.wp P a w K Q) → ∀ E, E.rd = rd → ∀ ρ a w (cs : List Frame) Q, Rep E ρ s a w →
            NxPost E ρ (fun a' w' => wpOpsS P ops Q (List.range' (i + 1) l.length) a' cs w') (fun e a' w' => Q e a' cs w') nx → wpOpsS P ops Q (List.range' i (o :: l).length) a cs w := by
          intro nx h2 E hE ρ a w cs Q hr hpost
          have h3 := h2 E hE ρ a w _ _ hr hpost
          rw [List.length_cons, List.range'_succ]
          simp only [wpOpsS, h0]
          rw [if_pos (by simp [Region.wanted, hg])]
          unfold Oper.wp at h3
          generalize (execOp a.eval o).run P w = r at h3 ⊢
          cases r with
          | halt x w' => exact h3
          | ok n w' => cases n <;> first | exact h3 | exact False.elim h3
        obtain ⟨nx, h1, h2⟩ := one_sound hcall hN h
        cases nx with
        | ok s1 =>
          obtain ⟨e, s', md', h3, h4⟩ := ih s1 md h1
          exact ⟨e, s', md', h3, fun E hE ρ a w c₀ cs Q hm hr hpost => fin _ h2 E hE ρ a w _ Q hr fun ρ' a' w' hl' hr' => h4 E hE ρ' a' w' c₀ cs Q hm hr' fun ρ2 a2 w2 hl2 hr2 => hpost ρ2 a2 w2 ⟨⟩ hr2⟩
        | pan v s1 =>
          refine ⟨_, _, _, h1, fun E hE ρ a w c₀ cs Q hm hr hpost => fin _ h2 E hE ρ a w _ Q hr fun ρ' a' w' hl' hr' => ?_⟩
          have := hpost ρ' a' w' ⟨⟩ hr'
          rw [frame_mode hm] at this
          exact this
      · cases h
theorem stepD_sound {call : CallK β} (hcall : CallOk rd P call) (hN : NamesOk P) {rec : CodeK β} (hrec : CodeOk P rd rec) {recD : CodeD β} (hrecD : CodeDOk P rd recD) : CodeDOk P rd (sxStepD P rd call rec recD) := by
  intro f c s md k out hin h
  unfold sxStepD at h
  split at h
  · split at h
    · rename_i id ops _
      obtain ⟨e, s', md', h1, h2⟩ := opsD_sound hcall hN (ops := ops) ops.toList 0 s md (fun j => by simp) h
      refine ⟨e, s', md', h1, fun E hE hlo ρ a w c₀ cs Q hm hr hpost => wpS_region ?_⟩
      rw [List.range_eq_range']
      have := h2 E hE ρ a w c₀ cs Q hm hr hpost
      rwa [Array.length_toList] at this
    · rename_i x y _
      obtain ⟨e1, s1, md1, h1, h2⟩ := hrecD _ _ _ _ _ _ (hin.sub (.seqL (.refl _))) h
      cases e1 with
      | normal =>
        obtain ⟨e, s', md', h3, h4⟩ := hrecD _ _ _ _ _ _ (hin.sub (.seqR (.refl _))) h1
        exact ⟨e, s', md', h3, fun E hE hlo ρ a w c₀ cs Q hm hr hpost => wpS_seq (h2 E hE hlo ρ a w c₀ cs _ hm hr fun ρ' a' w' hl hr' => h4 E hE hlo ρ' a' w' _ cs Q rfl hr' (hpost.next ⟨⟩))⟩
      | exit i => exact ⟨_, _, _, h1, fun E hE hlo ρ a w c₀ cs Q hm hr hpost => wpS_seq (h2 E hE hlo ρ a w c₀ cs _ hm hr hpost)⟩
      | ret => exact ⟨_, _, _, h1, fun E hE hlo ρ a w c₀ cs Q hm hr hpost => wpS_seq (h2 E hE hlo ρ a w c₀ cs _ hm hr hpost)⟩
      | panic v => exact ⟨_, _, _, h1, fun E hE hlo ρ a w c₀ cs Q hm hr hpost => wpS_seq (h2 E hE hlo ρ a w c₀ cs _ hm hr hpost)⟩
    · rename_i c x y _
      split at h
      · rename_i t ht
        have hc : ∀ E ρ a w, Rep E ρ s a w → a.eval c = .bool t := fun E ρ a w hr => by
          have := hr.eval c
          rw [ht] at this
          exact this
        have hrf := cond_refine ht
        cases t <;> simp only [cond_true, cond_false] at h <;> rw [hrf] at h
        · obtain ⟨e, s', md', h1, h2⟩ := hrecD _ _ _ _ _ _ (hin.sub (.condR (.refl _))) h
          exact ⟨e, s', md', h1, fun E hE hlo ρ a w c₀ cs Q hm hr hpost => wpS_cond (hc E ρ a w hr) (h2 E hE hlo ρ a w c₀ cs Q hm hr hpost)⟩
        · obtain ⟨e, s', md', h1, h2⟩ := hrecD _ _ _ _ _ _ (hin.sub (.condL (.refl _))) h
          exact ⟨e, s', md', h1, fun E hE hlo ρ a w c₀ cs Q hm hr hpost => wpS_cond (hc E ρ a w hr) (h2 E hE hlo ρ a w c₀ cs Q hm hr hpost)⟩
      · cases h
    · rename_i id x _
      obtain ⟨e1, s1, md1, h1, h2⟩ := hrecD _ _ _ _ _ _ (hin.sub (.block (.refl _))) h
      cases e1 with
      | normal => exact ⟨_, _, _, h1, fun E hE hlo ρ a w c₀ cs Q hm hr hpost => wpS_block (h2 E hE hlo ρ a w c₀ cs _ hm hr hpost)⟩
      | exit i =>
        simp only at h1
        split at h1
        · rename_i hi
          subst hi
          exact ⟨_, _, _, h1, fun E hE hlo ρ a w c₀ cs Q hm hr hpost => wpS_block (h2 E hE hlo ρ a w c₀ cs _ hm hr fun ρ' a' w' hl hr' => by
            show Exit.inBlockS i Q (.exit i) a' _ w'
            simp only [Exit.inBlockS, if_true]
            exact hpost ρ' a' w' ⟨⟩ hr')⟩
        · rename_i hi
          exact ⟨_, _, _, h1, fun E hE hlo ρ a w c₀ cs Q hm hr hpost => wpS_block (h2 E hE hlo ρ a w c₀ cs _ hm hr fun ρ' a' w' hl hr' => by
            show Exit.inBlockS id Q (.exit i) a' _ w'
            simp only [Exit.inBlockS, hi, if_false]
            exact hpost ρ' a' w' ⟨⟩ hr')⟩
      | ret => exact ⟨_, _, _, h1, fun E hE hlo ρ a w c₀ cs Q hm hr hpost => wpS_block (h2 E hE hlo ρ a w c₀ cs _ hm hr hpost)⟩
      | panic v => exact ⟨_, _, _, h1, fun E hE hlo ρ a w c₀ cs Q hm hr hpost => wpS_block (h2 E hE hlo ρ a w c₀ cs _ hm hr hpost)⟩
    · cases h
  · obtain ⟨e, s', h1, h2⟩ := hrec _ _ _ _ _ hin h
    refine ⟨e, s', md, h1, fun E hE hlo ρ a w c₀ cs Q hm hr hpost => wpS_of_wp (h2 E hE hlo ρ a w _ hr fun ρ' a' w' hl hr' => ?_)⟩
    have := hpost ρ' a' w' ⟨⟩ hr'
    rw [frame_mode hm] at this
    cases e <;> exact this

end
end Go.SX

/-
  A symbolic executor: functions are as their runs show.
-/
namespace Go.SX
set_option linter.unusedVariables false
set_option linter.unusedSimpArgs false
open Go.RowKit

section
variable {E : Env} {P : Program} {rd : Rd} {ρ ρ' : Ctx} {s s' : St} {a : Act} {w w' : World} {v : SV} {u : Value} {β : Type} {out : β} {Q : Exit → Act → World → Prop}

def FinOk (E : Env) (ρ : Ctx) (o : Out) (R : Ending → World → Prop) : Prop := ∀ ρ' w', Le ρ ρ' → Mem E ρ' o.m w' → OutOk ρ' o R w'
theorem settle_to (md : Md) : settle md.to = (settleMd md).to := by cases md <;> rfl
theorem defers_sound (hN : NamesOk P) {recD : CodeD β} (hrecD : CodeDOk P rd recD) {fn : Func} {s0 : St} {kk : Out → Option β} : ∀ (ds : List SD) (m : List Blk) (md : Md), sxDefers P rd recD fn s0 kk ds m md = some out →
    ∃ o, kk o = some out ∧ ∀ E, E.rd = rd → ∀ ρ (tmps : Array Value) (D : List Deferred) w R, (∃ us, tmps = us.toArray ∧ SV.RL ρ s0.t us) → DL ρ ds D → Mem E ρ m w → FinOk E ρ o R → Leaves P fn tmps R D md.to w
  | [], m, .ret, h => by
    simp only [sxDefers] at h
    split at h
    · rename_i v hv
      refine ⟨_, h, fun E hE ρ tmps D w R ht hd hm hfin => ?_⟩
      subst hE
      rw [DL] at hd
      subst hd
      have hr : Rep E ρ { s0 with m := m, d := [] } { tmps := tmps, defers := [] } w := ⟨ht, rfl, hm⟩
      have hv' : sxResults P E.rd { s0 with m := m, d := [] } fn = some v := hv
      obtain ⟨u, h1, h2⟩ := results_run (P := P) hr hv'
      exact ⟨u, h1, hfin ρ w (Le.refl _) hm u h2⟩
    · cases h
  | [], m, .pan v, h => by
    refine ⟨_, h, fun E _ ρ tmps D w R _ hd hm hfin => ?_⟩
    rw [DL] at hd
    subst hd
    exact hfin ρ w (Le.refl _) hm v rfl
  | [], m, .gone v, h => by simp [sxDefers] at h
  | d :: ds, m, md, h => by
    simp only [sxDefers] at h
    split at h
    · rename_i g hg
      split at h
      · rename_i c hc
        obtain ⟨e, s1, md1, h1, h2⟩ := hrecD _ _ _ _ _ _ ⟨g, c, hg, hc, .refl _⟩ h
        have fin : ∀ (md2 : Md) (o : Out), (∀ E, E.rd = rd → ∀ ρ (tmps : Array Value) (D : List Deferred) w R, (∃ us, tmps = us.toArray ∧ SV.RL ρ s0.t us) → DL ρ ds D → Mem E ρ s1.m w → FinOk E ρ o R → Leaves P fn tmps R D md2.to w) →
            s1.d = [] → (match e with | .normal => md2 = settleMd md1 ∧ (sxResults P rd s1 g).isSome | .ret => md2 = settleMd md1 ∧ (sxResults P rd s1 g).isSome | .panic v => md1 = .ret ∧ ∃ u, v.plain = some u ∧ md2 = .pan u | .exit _ => False) →
            ∀ E, E.rd = rd → ∀ ρ (tmps : Array Value) (D : List Deferred) w R, (∃ us, tmps = us.toArray ∧ SV.RL ρ s0.t us) → DL ρ (d :: ds) D → Mem E ρ m w → FinOk E ρ o R → Leaves P fn tmps R D md.to w := by
          intro md2 o hrest hsd he E hE ρ tmps D w R ht hd hm hfin
          obtain ⟨D1, D', rfl, ⟨cs, az, rfl, hcs, has⟩, hD'⟩ := hd
          have hrun : md.to ≠ .run := by cases md <;> simp [Md.to]
          have hbody : g.body.isSome = true := by rw [hc]; rfl
          have hn := hN _ _ hg hbody
          have hn' : g.body.isNone = false := by rw [hc]; rfl
          have hinv : (invoke (.fn (.func d.f) cs.toArray) az.toArray).run P w = .ok (.enter d.f (az.toArray ++ cs.toArray)) w := by
            simp only [invoke, callFunc, program, Sem.run_bind, Sem.run, Result.andThen_ok, hg, hn, hn', Bool.false_eq_true, if_false, Sem.run_pure]
          refine leaves_cons hrun hinv (callsD_of_wpS hg hc fun c₀ cs0 hu => ?_)
          refine h2 (E.at ρ) hE ⟨hm.dom, hm.vdom⟩ ρ _ w c₀ cs0 _ hu ⟨⟨az ++ cs ++ List.replicate (g.ntmps - (az ++ cs).length) undef, by apply Array.toList_inj.1; simp, ?_⟩, rfl, hm.at⟩ ?_
          · have hlen : (az ++ cs).length = (d.args ++ d.caps).length := by rw [List.length_append, List.length_append, has.length, hcs.length]
            rw [hlen]
            exact (has.append hcs).append (SV.RL.replicate undef _)
          · intro ρ' a' w' _ hr0
            obtain ⟨hl, hm0⟩ := hr0.m.back hm
            have hr' : Rep E ρ' s1 a' w' := ⟨hr0.t, hr0.d, hm0⟩
            have hdef : a'.defers = [] := by
              have := hr'.d
              rw [hsd, DL] at this
              exact this
            have ht' : ∃ us, tmps = us.toArray ∧ SV.RL ρ' s0.t us := by
              obtain ⟨us, h3, h4⟩ := ht
              exact ⟨us, h3, h4.pre hl⟩
            have hfin' : FinOk E ρ' o R := fun ρ2 w2 hl2 hm2 => hfin ρ2 w2 (hl.trans hl2) hm2
            have hlv := hrest E hE ρ' tmps D' w' R ht' (hD'.pre hl) hr'.m hfin'
            have retd : (sxResults P rd s1 g).isSome → md2 = settleMd md1 → bodyPostS P g c₀ cs0 (fun
                | .returned _, u', w' => Leaves P fn tmps R D' (settle u') w'
                | .panicked chain, u', w' => Leaves P fn tmps R D' (raised u' chain) w'
                | .outgrown, _, w' => R .outgrown w') .ret a' ({ c₀ with mode := md1.to } :: cs0) w' := fun hres hmd => by
              obtain ⟨v, hv⟩ := Option.isSome_iff_exists.1 hres
              subst hE
              obtain ⟨u, h3, _⟩ := results_run (P := P) hr' hv
              refine ⟨hdef, md1.to, rfl, u, h3, ?_⟩
              show Leaves P fn tmps R D' (settle md1.to) w'
              rw [settle_to, ← hmd]
              exact hlv
            cases e with
            | normal => exact retd he.2 he.1
            | ret => exact retd he.2 he.1
            | exit i => exact he.elim
            | panic v =>
              obtain ⟨rfl, u, hu2, rfl⟩ := he
              intro x hx
              have : x = u := SV.plain_R _ _ _ hu2 hx
              subst this
              exact ⟨hdef, Md.ret.to, rfl, hlv⟩
        cases hsd : s1.d with
        | cons x y => rw [hsd] at h1; cases e <;> cases h1
        | nil =>
          rw [hsd] at h1
          cases e with
          | normal =>
            simp only at h1
            split at h1
            · rename_i v hv
              obtain ⟨o, h3, h4⟩ := defers_sound hN hrecD ds _ _ h1
              exact ⟨o, h3, fin _ o h4 hsd ⟨rfl, by rw [hv]; rfl⟩⟩
            · cases h1
          | ret =>
            simp only at h1
            split at h1
            · rename_i v hv
              obtain ⟨o, h3, h4⟩ := defers_sound hN hrecD ds _ _ h1
              exact ⟨o, h3, fin _ o h4 hsd ⟨rfl, by rw [hv]; rfl⟩⟩
            · cases h1
          | exit i => cases h1
          | panic v =>
            simp only at h1
            cases md1 with
            | pan x => cases h1
            | gone x => cases h1
            | ret =>
              cases hu : v.plain with
              | none => rw [hu] at h1; cases h1
              | some u =>
                rw [hu] at h1
                obtain ⟨o, h3, h4⟩ := defers_sound hN hrecD ds _ _ h1
                exact ⟨o, h3, fin _ o h4 hsd ⟨rfl, u, hu, rfl⟩⟩
      · cases h
    · cases h

theorem enter_sound (hN : NamesOk P) {rec : CodeK β} (hrec : CodeOk P rd rec) {recD : CodeD β} (hrecD : CodeDOk P rd recD) : CallOk rd P (sxEnter P rd rec recD) := by
  intro f args m kk out h
  unfold sxEnter at h
  split at h
  · rename_i fn hf
    split at h
    · rename_i c hb
      obtain ⟨e, s1, h1, h2⟩ := hrec _ _ _ _ _ ⟨fn, c, hf, hb, .refl _⟩ h
      refine ⟨⟨fn, hf, by rw [hb]; rfl⟩, ?_⟩
      have fin : ∀ (md : Md) (o : Out), (∀ E, E.rd = rd → ∀ ρ (tmps : Array Value) (D : List Deferred) w R, (∃ us, tmps = us.toArray ∧ SV.RL ρ s1.t us) → DL ρ s1.d D → Mem E ρ s1.m w → FinOk E ρ o R → Leaves P fn tmps R D md.to w) →
          (match e with | .normal => md = .ret | .ret => md = .ret | .panic v => ∃ u, v.plain = some u ∧ md = .pan u | .exit _ => False) → CRuns rd P f args m o := by
        intro md o hd he E hE ρ w us R hm hargs hfin
        refine calls_of_wp_defers hf hb (h2 (E.at ρ) hE ⟨hm.dom, hm.vdom⟩ ρ _ w _ ⟨⟨us ++ List.replicate (fn.ntmps - args.length) undef, ?_, ?_⟩, rfl, hm.at⟩ ?_)
        · apply Array.toList_inj.1
          simp [hargs.length]
        · exact hargs.append (SV.RL.replicate undef _)
        · intro ρ' a' w' _ hr0
          obtain ⟨hl, hm0⟩ := hr0.m.back hm
          have hr' : Rep E ρ' s1 a' w' := ⟨hr0.t, hr0.d, hm0⟩
          have hlv := hd E hE ρ' a'.tmps a'.defers w' R hr'.t hr'.d hr'.m fun ρ2 w2 hl2 hm2 => hfin ρ2 w2 (hl.trans hl2) hm2
          cases e with
          | normal => subst he; exact hlv
          | ret => subst he; exact hlv
          | exit i => exact he.elim
          | panic v =>
            obtain ⟨u, hu, rfl⟩ := he
            intro x hx
            have : x = u := SV.plain_R _ _ _ hu hx
            subst this
            exact hlv
      cases e with
      | normal =>
        obtain ⟨o, h3, h4⟩ := defers_sound hN hrecD _ _ _ h1
        exact ⟨o, h3, fin _ o h4 rfl⟩
      | ret =>
        obtain ⟨o, h3, h4⟩ := defers_sound hN hrecD _ _ _ h1
        exact ⟨o, h3, fin _ o h4 rfl⟩
      | panic v =>
        simp only at h1
        split at h1
        · rename_i u hu
          obtain ⟨o, h3, h4⟩ := defers_sound hN hrecD _ _ _ h1
          exact ⟨o, h3, fin _ o h4 ⟨u, hu, rfl⟩⟩
        · cases h1
      | exit i => cases h1
    · cases h
  · cases h

theorem join_sound {f : FuncId} {args : List SV} {o : Out} (h : IRuns rd P f args o) (hargs : SV.deepL args = true) (m : List Blk) : CRuns rd P f args m (o.join m) := by
  intro E hE ρ w us R hm hr hfin
  have hrd : rd.Ok w fun _ => False := by subst hE; exact hm.kept.read
  refine h w ρ.z R hrd us hm.zok (deep_RL (ρ := ρ) (ρ' := ⟨fun _ => none, fun _ => none, ρ.z⟩) (fun _ _ _ h => h) _ _ hargs hr) fun ρ1 w' h1 => ?_
  obtain ⟨le, hp⟩ := hm.afterIso h1
  have hs := hm.beside h1
  obtain ⟨e, m1⟩ := o
  cases e with
  | ret v =>
    intro x hx
    cases hv : v.deep with
    | true =>
      have hj : Out.join ⟨.ret v, m1⟩ m = ⟨.ret v, m⟩ := by simp only [Out.join, hv]
      rw [hj] at hfin
      exact hfin _ w' le hp x (deep_R (ρ := ρ1) (ρ' := ⟨ρ.b, ρ.v, ρ1.z⟩) (fun _ _ _ h => h) v x hv hx)
    | false =>
      have hj : Out.join ⟨.ret v, m1⟩ m = ⟨.ret (v.shift m.length), m ++ m1.map (Blk.shift m.length)⟩ := by simp only [Out.join, hv]
      rw [hj] at hfin
      exact hfin _ w' (beside_le hm h1.pre.z) hs x (shift_R v x hx)
  | pan v =>
    intro x hx
    cases hv : v.deep with
    | true =>
      have hj : Out.join ⟨.pan v, m1⟩ m = ⟨.pan v, m⟩ := by simp only [Out.join, hv]
      rw [hj] at hfin
      exact hfin _ w' le hp x (deep_R (ρ := ρ1) (ρ' := ⟨ρ.b, ρ.v, ρ1.z⟩) (fun _ _ _ h => h) v x hv hx)
    | false =>
      have hj : Out.join ⟨.pan v, m1⟩ m = ⟨.pan (v.shift m.length), m ++ m1.map (Blk.shift m.length)⟩ := by simp only [Out.join, hv]
      rw [hj] at hfin
      exact hfin _ w' (beside_le hm h1.pre.z) hs x (shift_R v x hx)

/-- an ending is az said -/
def EndOk (ρ : Ctx) (e : OutE) (e' : Ending) : Prop :=
  match e with
  | .ret v => ∃ u, e' = .returned u ∧ v.R ρ u
  | .pan v => ∃ u, e' = .panicked [{ v := u, recovered := false }] ∧ v.R ρ u
/-- a call on values that stand still comes to this: it touches nothing that was there, and what it hands back stands still -/
def DPlain (P : Program) (f : FuncId) (args : List SV) (e : OutE) : Prop :=
  ∀ w z us, ZOk z w → SV.RL ⟨fun _ => none, fun _ => none, z⟩ args us → Calls P f us.toArray w fun e' w' => Below w.heap.size w w' ∧
    ∃ z', (∀ r o x, z r o = some x → z' r o = some x) ∧ ZOk z' w' ∧ (∀ r o x, z' r o = some x → r < w.heap.size → z r o = some x) ∧ EndOk ⟨fun _ => none, fun _ => none, z'⟩ e e'
/-- contracts hold -/
def PConOk (P : Program) (rd : Rd) (g : PCon) : Prop :=
  ∀ f h, g f = some h → HasBody P f ∧ ∀ args e, (h args).res = some e → DPlain P f args e
theorem DPlain.irun {f : FuncId} {args : List SV} {e : OutE} (h : DPlain P f args e) : IRuns rd P f args ⟨e, []⟩ := by
  intro w z R hrd us hz hr hfin
  refine (h w z us hz hr).mono ?_
  rintro e' w' ⟨hb, z', h1, h2, h3, h4⟩
  have hm : Mem (Env.iso rd w hrd z) ⟨fun _ => none, fun _ => none, z'⟩ [] w' := ((Mem.startIso hrd hz).belowZ hb h1 h2 h3).2
  have := hfin _ w' hm
  cases e with
  | ret v => obtain ⟨u, rfl, hu⟩ := h4; exact this u hu
  | pan v => obtain ⟨u, rfl, hu⟩ := h4; exact this u hu
theorem crun_irun {f : FuncId} {args : List SV} {o : Out} (h : CRuns rd P f args [] o) : IRuns rd P f args o := fun w z R hrd us hz hr hfin =>
  h (Env.iso rd w hrd z) rfl ⟨fun _ => none, fun _ => none, z⟩ w us R (Mem.startIso hrd hz) hr fun ρ' w' _ hm => hfin ρ' w' hm
theorem i_sound (hN : NamesOk P) {g : PCon} (hg : PConOk P rd g) {rec : CodeK β} (hrec : CodeOk P rd rec) {recD : CodeD β} (hrecD : CodeDOk P rd recD) : ICallOk rd P (sxI P rd g rec recD) := by
  intro f args kk out h
  unfold sxI at h
  split at h
  · rename_i hh hf
    obtain ⟨hb, hc⟩ := hg f hh hf
    obtain ⟨e, h1, h2⟩ := R3.k_some _ _ _ h
    exact ⟨hb, _, h2, (hc args e h1).irun⟩
  · obtain ⟨hb, o, h1, h2⟩ := enter_sound hN hrec hrecD _ _ _ _ _ h
    exact ⟨hb, o, h1, crun_irun h2⟩
theorem one_cell {x : SV} {u : Value} (hx : x.R ρ u) (h1 : ∀ l, x ≠ .agg l) (h2 : ∀ l, x ≠ .tup l) (h3 : ∀ l, x ≠ .val (.agg l)) (h4 : ∀ l, x ≠ .val (.tuple l)) (h5 : x ≠ .any) : u.cells.toList = [u] := by
  cases x with
  | val v =>
    obtain rfl : u = v := hx
    cases u <;> first | rfl | exact absurd rfl (h3 _) | exact absurd rfl (h4 _)
  | any => exact absurd rfl h5
  | ptr i off => obtain ⟨_, _, rfl⟩ := hx; rfl
  | sl i off n c => obtain ⟨_, _, rfl⟩ := hx; rfl
  | mp i => obtain ⟨_, _, rfl⟩ := hx; rfl
  | agg l => exact absurd rfl (h1 _)
  | tup l => exact absurd rfl (h2 _)
  | clo fn l k => obtain ⟨_, _, rfl, _⟩ := hx; rfl
  | dsl t l =>
    obtain ⟨base, c, h, _⟩ := hx
    have : u = .slice base (List.length l) c := by simpa using h
    rw [this]; rfl
  | dpt t y off => obtain ⟨_, _, _, rfl, _⟩ := hx; rfl
  | vec i => obtain ⟨_, _, _, _, rfl⟩ := hx; rfl
  | wpt i s k o => obtain ⟨_, _, _, _, rfl⟩ := hx; rfl
  | emp => obtain ⟨_, rfl⟩ := hx; rfl
theorem norm1_sound {m : List Blk} {t : TypeId} {x y : SV} {u : Value} (hM : Mem E ρ m w) (hx : x.R ρ u) (h : norm1 P m t x = some y) : y.R ρ u := by
  unfold norm1 at h
  split at h
  · split at h
    · split at h
      · cases h
        have hx' : u = .slice none 0 0 := hx
        subst hx'
        exact ⟨none, 0, rfl, Nat.le_refl _, .inr ⟨rfl, rfl⟩⟩
      · cases h; exact hx
    · cases h; exact hx
  · split at h
    · rename_i i
      split at h
      · rename_i cs e hm
        split at h
        · rename_i ty hty
          split at h
          · rename_i y0 hp
            cases h
            obtain ⟨r, hb, rfl⟩ := hx
            rw [nth_eq] at hm
            obtain ⟨_, ho, us, rfl, hl⟩ := hM.get hm hb
            obtain ⟨ds, us', h1, h2, h3⟩ := parseT_sound hM ty _ _ _ _ hp hl
            rw [SV.RL] at h3
            subst h3
            rw [List.append_nil] at h1
            subst h1
            refine ⟨r, 0, us, rfl, fun j v hv => ?_, h2⟩
            rw [Nat.zero_add]
            exact hM.zfro _ cs e r j v hm hb (by simp [World.cell?, ho, hv])
          · cases h
        · cases h
      · cases h
    · rename_i x' hnp
      split at h
      · rename_i ty cs hty hcs
        split at h
        · rename_i y0 hp
          have hc := atom_R hx hcs
          obtain ⟨ds, us', h1, h2, h3⟩ := parseT_sound hM ty _ _ _ _ hp hc
          rw [SV.RL] at h3
          subst h3
          rw [List.append_nil] at h1
          have hf := flatT_R ty y0 ds h2
          split at h
          · rename_i l
            cases h
            obtain ⟨us, rfl, _⟩ := hx
            refine ⟨ds, ?_, hf⟩
            have h9 : us = ds := by simpa [Value.cells] using h1
            rw [h9]
          · cases h
          · cases h
          · cases h
          · rename_i n1 n2 n3 n4
            split at h
            · rename_i v hv
              cases h
              have hany : x ≠ .any := fun e => by subst e; cases hcs
              have := one_cell hx (fun l e => n1 l e) (fun l e => n4 l e) (fun l e => n2 l e) (fun l e => n3 l e) hany
              rw [this] at h1
              rw [hv, ← h1] at hf
              obtain ⟨_, _, e, h5, _⟩ := hf
              cases e
              exact h5
            · cases h
        · cases h
      · cases h
theorem normL_sound {m : List Blk} (hM : Mem E ρ m w) : ∀ (ts : List TypeId) (xs ys : List SV) (us : List Value), SV.RL ρ xs us → normL P m ts xs = some ys → SV.RL ρ ys us
  | t :: ts, x :: xs, ys, us, hr, h => by
    simp only [normL] at h
    split at h
    · rename_i y ys' h1 h2
      cases h
      obtain ⟨u, us', rfl, h3, h4⟩ := hr
      exact ⟨u, us', rfl, norm1_sound hM h3 h1, normL_sound hM ts xs ys' us' h4 h2⟩
    · cases h
  | [], x :: xs, ys, us, hr, h => by
    simp only [normL] at h
    split at h
    · rename_i y ys' h1 h2
      cases h
      obtain ⟨u, us', rfl, h3, h4⟩ := hr
      exact ⟨u, us', rfl, norm1_sound hM h3 h1, normL_sound hM [] xs ys' us' h4 h2⟩
    · cases h
  | [], [], ys, us, hr, h => by
    simp only [normL, Option.some.injEq] at h
    subst h
    exact hr
  | _ :: _, [], _, _, _, h => by simp [normL] at h
theorem c_sound (hN : NamesOk P) {g : PCon} (hg : PConOk P rd g) {rec : CodeK β} (hrec : CodeOk P rd rec) {recD : CodeD β} (hrecD : CodeDOk P rd recD) : CallOk rd P (sxC P rd g rec recD) := by
  intro f args m kk out h
  unfold sxC at h
  split at h
  · rename_i hargs
    obtain ⟨hb, o, h1, h2⟩ := i_sound hN hg hrec hrecD _ _ _ _ h
    exact ⟨hb, _, h1, join_sound h2 hargs m⟩
  · split at h
    · exact enter_sound hN hrec hrecD _ _ _ _ _ h
    · rename_i hh hf
      obtain ⟨hb, hc⟩ := hg f hh hf
      split at h
      · cases h
      · rename_i fn hfn
        rw [lf_eq _ Blk.f_eq] at h
        split at h
        · cases h
        · rename_i args' hn
          split at h
          · cases h
          · rename_i hdeep
            obtain ⟨e, h1, h2⟩ := R3.k_some _ _ _ h
            have hd := hc args' e h1
            have key : ∀ (E : Env), E.rd = rd → ∀ ρ w us R, Mem E ρ m w → SV.RL ρ args us → (∀ ρ' w', Le ρ ρ' → Mem E ρ' (frz m (reach m 6 args)) w' → ∀ z0, ρ'.z = z0 → ∀ e', EndOk ⟨fun _ => none, fun _ => none, z0⟩ e e' → R e' w') → Calls P f us.toArray w R := by
              intro E _ ρ w us R hm hr hfin
              obtain ⟨ρ2, le2, hm2⟩ := hm.frz (reach m 6 args)
              have hr2 := normL_sound (P := P) hm2 _ _ _ _ (hr.pre le2) hn
              refine (hd w ρ2.z us hm2.zok (deep_RL (ρ := ρ2) (ρ' := ⟨fun _ => none, fun _ => none, ρ2.z⟩) (fun _ _ _ h => h) _ _ hdeep hr2)).mono ?_
              rintro e' w' ⟨hbl, z', g1, g2, g3, g4⟩
              obtain ⟨le3, hm3⟩ := hm2.belowZ hbl g1 g2 g3
              exact hfin _ w' (le2.trans le3) hm3 z' rfl e' g4
            split at h2
            · rename_i v
              split at h2
              · rename_i hv
                refine ⟨hb, _, h2, fun E hE ρ w us R hm hr hfin => key E hE ρ w us R hm hr fun ρ' w' le hm' z0 hz e' he => ?_⟩
                subst hz
                obtain ⟨u, rfl, hu⟩ := he
                exact hfin ρ' w' le hm' u (deep_R (ρ := ⟨fun _ => none, fun _ => none, ρ'.z⟩) (ρ' := ρ') (fun _ _ _ h => h) v u hv hu)
              · cases h2
            · rename_i v
              split at h2
              · rename_i hv
                refine ⟨hb, _, h2, fun E hE ρ w us R hm hr hfin => key E hE ρ w us R hm hr fun ρ' w' le hm' z0 hz e' he => ?_⟩
                subst hz
                obtain ⟨u, rfl, hu⟩ := he
                exact hfin ρ' w' le hm' u (deep_R (ρ := ⟨fun _ => none, fun _ => none, ρ'.z⟩) (ρ' := ρ') (fun _ _ _ h => h) v u hv hu)
              · cases h2
theorem both_sound (hP : POk P) {g : PCon} (hg : PConOk P rd g) {lp : Loops} (hlp : LoopsOk P rd lp) : ∀ n : Nat, CodeOk P rd (sxBoth P rd lp g n (β := β)).1 ∧ CodeDOk P rd (sxBoth P rd lp g n (β := β)).2
  | 0 => ⟨fun _ _ _ _ _ _ h => (nomatch h), fun _ _ _ _ _ _ _ h => (nomatch h)⟩
  | n + 1 => by
    obtain ⟨h1, h2⟩ := both_sound hP hg hlp n
    exact ⟨step_sound (i_sound hP.names hg h1 h2) (c_sound hP.names hg h1 h2) hP h1 hlp, stepD_sound (c_sound hP.names hg h1 h2) hP.names h1 h2⟩
mutual
theorem SV.plain_self {ρ : Ctx} : ∀ (x : SV) (v : Value), x.plain = some v → x.R ρ v
  | .val _, v, h => by
    simp only [SV.plain, Option.some.injEq] at h
    exact h.symm
  | .any, _, _ => trivial
  | .ptr _ _, _, h => by simp [SV.plain] at h
  | .sl _ _ _ _, _, h => by simp [SV.plain] at h
  | .mp _, _, h => by simp [SV.plain] at h
  | .agg l, v, h => by
    simp only [SV.plain, Option.map_eq_some_iff] at h
    obtain ⟨vs, h3, h4⟩ := h
    exact ⟨vs, h4.symm, SV.plainL_self l vs h3⟩
  | .tup l, v, h => by
    simp only [SV.plain, Option.map_eq_some_iff] at h
    obtain ⟨vs, h3, h4⟩ := h
    exact ⟨vs, h4.symm, SV.plainL_self l vs h3⟩
  | .clo fn l k, v, h => by
    simp only [SV.plain] at h
    split at h
    · rename_i us vs e1 e2
      cases h
      exact ⟨us, vs, rfl, SV.plainL_self l us e1, SV.plainL_self k vs e2⟩
    · cases h
theorem SV.plainL_self {ρ : Ctx} : ∀ (l : List SV) (vs : List Value), SV.plainL l = some vs → SV.RL ρ l vs
  | [], vs, h => by
    simp only [SV.plainL, Option.some.injEq] at h
    exact h.symm
  | x :: l, vs, h => by
    simp only [SV.plainL] at h
    split at h
    · rename_i v vs' e1 e2
      cases h
      exact ⟨v, vs', rfl, SV.plain_self x v e1, SV.plainL_self l vs' e2⟩
    · cases h
end
/-- the end of a call that hands back a plain value -/
def OutE.end : OutE → Option Ending
  | .ret s => s.plain.map .returned
  | .pan s => s.plain.map fun v => .panicked [{ v := v, recovered := false }]
/-- no loop is known -/
def noL : Loops := fun _ _ => none
theorem noL_ok : LoopsOk P rd noL := fun _ _ _ h => (nomatch h)
def sxEnd (P : Program) (rd : Rd) (g : PCon) (n : Nat) (f : FuncId) (vs : List Value) : Option Ending := sxEnter P rd (sxBoth P rd noL g n).1 (sxBoth P rd noL g n).2 f (vs.map .val) [] fun o => o.e.end
/-- a call comes to this, in whatever world, and touches nothing that was there -/
def Plain (P : Program) (f : FuncId) (vs : List Value) (e0 : Ending) : Prop := ∀ w, Calls P f vs.toArray w fun e w' => e = e0 ∧ Below w.heap.size w w'
theorem end_irun {f : FuncId} {vs : List Value} {o : Out} {e0 : Ending} (h : IRuns rd P f (vs.map .val) o) (he : o.e.end = some e0) {w : World} (hrd : rd.Ok w fun _ => False) : Calls P f vs.toArray w fun e w' => e = e0 ∧ Below w.heap.size w w' := by
  refine h w (fun _ _ => none) _ hrd vs (fun _ _ _ h => (nomatch h)) (SV.RL.vals vs) fun ρ w' hm => ?_
  obtain ⟨e, m⟩ := o
  cases e with
  | ret s =>
    simp only [OutE.end, Option.map_eq_some_iff] at he
    obtain ⟨v, h1, rfl⟩ := he
    exact fun u hu => ⟨by rw [SV.plain_R s v u h1 hu], hm.stopIso⟩
  | pan s =>
    simp only [OutE.end, Option.map_eq_some_iff] at he
    obtain ⟨v, h1, rfl⟩ := he
    exact fun u hu => ⟨by rw [SV.plain_R s v u h1 hu], hm.stopIso⟩
theorem end_sound (hP : POk P) {g : PCon} (hg : PConOk P rd g) (n : Nat) {f : FuncId} {vs : List Value} {e0 : Ending} (h : sxEnd P rd g n f vs = some e0) {w : World} (hrd : rd.Ok w fun _ => False) :
    Calls P f vs.toArray w fun e w' => e = e0 ∧ Below w.heap.size w w' := by
  obtain ⟨h1, h2⟩ := both_sound (β := Ending) hP hg noL_ok n
  obtain ⟨hb, o', h3, h4⟩ := enter_sound hP.names h1 h2 _ _ _ _ _ h
  exact end_irun (crun_irun h4) h3 hrd
/-- nothing is known of memory that came in -/
def Rd.no : Rd := ⟨fun _ => false, fun _ => default, fun _ _ => false, fun _ _ => 0, fun _ => false, fun _ => false, fun _ => false, fun _ => none, fun _ => 0, fun _ => 0⟩
theorem Rd.no_ok (w : World) (S : Nat → Prop) : Rd.no.Ok w S := ⟨fun _ h => (nomatch h), fun _ _ h => (nomatch h), fun _ h => (nomatch h), fun _ h => (nomatch h)⟩
theorem plain_sound (hP : POk P) {g : PCon} (hg : PConOk P Rd.no g) (n : Nat) {f : FuncId} {vs : List Value} {e0 : Ending} (h : sxEnd P Rd.no g n f vs = some e0) : Plain P f vs e0 :=
  fun w => end_sound hP hg n h (Rd.no_ok w _)
theorem Plain.dplain {f : FuncId} {args : List SV} {vs : List Value} {e0 : Ending} {e : OutE} (h : Plain P f vs e0) (hv : SV.plainL args = some vs) (he : e.end = some e0) : DPlain P f args e := by
  intro w z us hz hr
  have : us = vs := SV.plainL_R _ _ _ hv hr
  subst this
  refine (h w).mono ?_
  rintro e' w' ⟨rfl, hb⟩
  refine ⟨hb, z, fun _ _ _ h => h, fun r o x hx => ?_, fun _ _ _ h _ => h, ?_⟩
  · have h1 := hz r o x hx
    rw [cell_eq (hb.block r (cell_lt h1))]
    exact h1
  · cases e with
    | ret s =>
      simp only [OutE.end, Option.map_eq_some_iff] at he
      obtain ⟨v, h1, rfl⟩ := he
      exact ⟨v, rfl, SV.plain_self s v h1⟩
    | pan s =>
      simp only [OutE.end, Option.map_eq_some_iff] at he
      obtain ⟨v, h1, rfl⟩ := he
      exact ⟨v, rfl, SV.plain_self s v h1⟩
/-- tables of contracts that hand back plain values -/
abbrev ECon := FuncId → Option (List Value → R3 OutE)
def ECon.p (g : ECon) : PCon := fun f => match g f with
  | some h => some fun args => match SV.plainL args with
    | some vs => h vs
    | none => .no
  | none => none
def EConOk (P : Program) (g : ECon) : Prop := ∀ f h, g f = some h → HasBody P f ∧ ∀ vs e, (h vs).res = some e → ∃ e0, e.end = some e0 ∧ Plain P f vs e0
theorem ECon.ok {g : ECon} (hg : EConOk P g) : PConOk P rd g.p := by
  intro f h hf
  unfold ECon.p at hf
  split at hf
  · rename_i h' hh
    cases hf
    obtain ⟨hb, hc⟩ := hg f h' hh
    refine ⟨hb, fun args e ho => ?_⟩
    simp only at ho
    split at ho
    · rename_i vs hv
      obtain ⟨e0, h3, h4⟩ := hc vs e ho
      exact h4.dplain hv h3
    · cases ho
  · cases hf

/-- what a call hands back, leading to no block of the call's own -/
def deepOut (P : Program) (fn : Func) (o : Out) : Option OutE :=
  match o.e with
  | .ret v => match v, fn.resultTypes.toList with
    | .tup l, ts => match normL P (frz o.m (reach o.m 6 [.tup l])) ts l with
      | some l' => if SV.deepL l' then some (.ret (.tup l')) else none
      | none => none
    | x, [t] => match norm1 P (frz o.m (reach o.m 6 [x])) t x with
      | some y => if y.deep then some (.ret y) else none
      | none => none
    | x, _ => if x.deep then some (.ret x) else none
  | .pan v => match v.deep with
    | true => some (.pan v)
    | false => none
def sxE (P : Program) (lp : Loops) (g : PCon) (n : Nat) (f : FuncId) (args : List SV) : Option OutE :=
  match P.funcs[f]? with
  | some fn => sxEnter P Rd.no (sxBoth P Rd.no lp g n).1 (sxBoth P Rd.no lp g n).2 f args [] fun o => deepOut P fn o
  | none => none
theorem deepOut_sound {fn : Func} {f : FuncId} {args : List SV} {o : Out} {e : OutE} (h : IRuns Rd.no P f args o) (he : deepOut P fn o = some e) : DPlain P f args e := by
  intro w z us hz hr
  refine h w z _ (Rd.no_ok w _) us hz hr fun ρ w' hm => ?_
  have base : ∀ (ρ' : Ctx) (m' : List Blk), Mem (Env.iso Rd.no w (Rd.no_ok w _) z) ρ' m' w' → ∀ e', EndOk ⟨fun _ => none, fun _ => none, ρ'.z⟩ e e' → Below w.heap.size w w' ∧
      ∃ z', (∀ r o x, z r o = some x → z' r o = some x) ∧ ZOk z' w' ∧ (∀ r o x, z' r o = some x → r < w.heap.size → z r o = some x) ∧ EndOk ⟨fun _ => none, fun _ => none, z'⟩ e e' := fun ρ' m' hm' e' he' =>
    ⟨hm'.stopIso, ρ'.z, hm'.pre.z, hm'.zok, hm'.znew, he'⟩
  obtain ⟨oe, m⟩ := o
  unfold deepOut at he
  cases oe with
  | ret v =>
    intro u hu
    simp only at he
    split at he
    · have key : ∀ (l : List SV) (ts : List TypeId) (l' : List SV), (SV.tup l).R ρ u → normL P (frz m (reach m 6 [.tup l])) ts l = some l' → SV.deepL l' = true → OutE.ret (.tup l') = e → Below w.heap.size w w' ∧
          ∃ z', (∀ r o x, z r o = some x → z' r o = some x) ∧ ZOk z' w' ∧ (∀ r o x, z' r o = some x → r < w.heap.size → z r o = some x) ∧ EndOk ⟨fun _ => none, fun _ => none, z'⟩ e (.returned u) := fun l ts l' hx hl hd he => by
        subst he
        obtain ⟨ρ2, le2, hm2⟩ := hm.frz (reach m 6 [.tup l])
        obtain ⟨us', rfl, h2⟩ := hx
        have h3 := normL_sound (P := P) hm2 _ _ _ _ (h2.pre le2) hl
        exact base ρ2 _ hm2 _ ⟨_, rfl, ⟨us', rfl, deep_RL (ρ := ρ2) (ρ' := ⟨fun _ => none, fun _ => none, ρ2.z⟩) (fun _ _ _ h => h) _ _ hd h3⟩⟩
      split at he
      · rename_i l' hl
        split at he
        · rename_i hd
          cases he
          exact key _ _ _ hu hl hd rfl
        · cases he
      · cases he
    · have key : ∀ (x : SV) (t : TypeId) (y : SV), x.R ρ u → norm1 P (frz m (reach m 6 [x])) t x = some y → y.deep = true → OutE.ret y = e → Below w.heap.size w w' ∧
          ∃ z', (∀ r o x, z r o = some x → z' r o = some x) ∧ ZOk z' w' ∧ (∀ r o x, z' r o = some x → r < w.heap.size → z r o = some x) ∧ EndOk ⟨fun _ => none, fun _ => none, z'⟩ e (.returned u) := fun x t y hx hy hd he => by
        subst he
        obtain ⟨ρ2, le2, hm2⟩ := hm.frz (reach m 6 [x])
        have h3 := norm1_sound (P := P) hm2 (SV.R.pre le2 hx) hy
        exact base ρ2 _ hm2 _ ⟨u, rfl, deep_R (ρ := ρ2) (ρ' := ⟨fun _ => none, fun _ => none, ρ2.z⟩) (fun _ _ _ h => h) y u hd h3⟩
      split at he
      · rename_i y hy
        split at he
        · rename_i hd
          cases he
          exact key _ _ y hu hy hd rfl
        · cases he
      · cases he
    · have key : ∀ (x : SV), x.R ρ u → x.deep = true → OutE.ret x = e → Below w.heap.size w w' ∧
          ∃ z', (∀ r o x, z r o = some x → z' r o = some x) ∧ ZOk z' w' ∧ (∀ r o x, z' r o = some x → r < w.heap.size → z r o = some x) ∧ EndOk ⟨fun _ => none, fun _ => none, z'⟩ e (.returned u) := fun x hx hd he => by
        subst he
        exact base ρ m hm _ ⟨u, rfl, deep_R (ρ := ρ) (ρ' := ⟨fun _ => none, fun _ => none, ρ.z⟩) (fun _ _ _ h => h) x u hd hx⟩
      split at he
      · rename_i hd
        cases he
        exact key _ hu hd rfl
      · cases he
  | pan v =>
    intro u hu
    simp only at he
    split at he
    · rename_i hd
      cases he
      exact base ρ m hm _ ⟨u, rfl, deep_R (ρ := ρ) (ρ' := ⟨fun _ => none, fun _ => none, ρ.z⟩) (fun _ _ _ h => h) v u hd hu⟩
    · cases he
/-- WHAT A RUN SHOWS -/
theorem sxE_sound (hP : POk P) {g : PCon} (hg : PConOk P Rd.no g) {lp : Loops} (hlp : LoopsOk P Rd.no lp) (n : Nat) {f : FuncId} {args : List SV} {e : OutE} (h : sxE P lp g n f args = some e) : HasBody P f ∧ DPlain P f args e := by
  unfold sxE at h
  split at h
  · rename_i fn hfn
    obtain ⟨h1, h2⟩ := both_sound (β := OutE) hP hg hlp n
    obtain ⟨hb, o', h3, h4⟩ := enter_sound hP.names h1 h2 _ _ _ _ _ h
    exact ⟨hb, deepOut_sound (crun_irun h4) h3⟩
  · cases h

end
end Go.SX

/-
  Plain numbers: base 256 texts (most significant byte first) and base 2^32 digits (least significant first).
-/
namespace Go.Proofs.Ytmcejefeloljiaa.Nm
set_option linter.unusedVariables false
set_option linter.unusedSimpArgs false

/-! ### texts to the base 256 -/
def val (l : List UInt8) : Nat := l.foldl (fun a b => a * 256 + b.toNat) 0
def natl : List UInt8 → Bool
  | [] => true
  | b :: _ => b != 0
def encF : Nat → Nat → List UInt8
  | 0, _ => []
  | f + 1, n => if n = 0 then [] else encF f (n / 256) ++ [UInt8.ofNat (n % 256)]
def enc (n : Nat) : List UInt8 := encF n n

theorem foldl_val (l : List UInt8) : ∀ a, l.foldl (fun a b => a * 256 + b.toNat) a = a * 256 ^ l.length + val l := by
  induction l with
  | nil => intro a; simp [val]
  | cons b l ih =>
    intro a
    simp only [List.foldl_cons, val, List.length_cons]
    rw [ih, ih (0 * 256 + b.toNat)]
    rw [Nat.pow_succ, Nat.add_mul]
    simp only [Nat.zero_mul, Nat.zero_add]
    have : a * 256 * 256 ^ l.length = a * (256 ^ l.length * 256) := by rw [Nat.mul_assoc, Nat.mul_comm 256]
    omega

theorem val_nil : val [] = 0 := rfl
theorem val_cons (b : UInt8) (l : List UInt8) : val (b :: l) = b.toNat * 256 ^ l.length + val l := by
  unfold val; rw [List.foldl_cons, foldl_val]; simp [val]
theorem val_append (l m : List UInt8) : val (l ++ m) = val l * 256 ^ m.length + val m := by
  unfold val; rw [List.foldl_append, foldl_val]; rfl
theorem val_snoc (l : List UInt8) (b : UInt8) : val (l ++ [b]) = val l * 256 + b.toNat := by
  rw [val_append]; simp [val_cons, val_nil]
theorem val_lt (l : List UInt8) : val l < 256 ^ l.length := by
  induction l with
  | nil => simp [val]
  | cons b l ih =>
    rw [val_cons, List.length_cons, Nat.pow_succ]
    have hb := b.toNat_lt
    have h : b.toNat * 256 ^ l.length ≤ 255 * 256 ^ l.length := Nat.mul_le_mul_right _ (by omega)
    omega

theorem encF_zero (f : Nat) : encF f 0 = [] := by cases f <;> simp [encF]
theorem encF_enough : ∀ (n f g : Nat), n ≤ f → n ≤ g → encF f n = encF g n := by
  intro n
  induction n using Nat.strongRecOn with
  | _ n ih =>
    intro f g hf hg
    by_cases h0 : n = 0
    · subst h0; rw [encF_zero, encF_zero]
    · obtain ⟨f, rfl⟩ : ∃ k, f = k + 1 := ⟨f - 1, by omega⟩
      obtain ⟨g, rfl⟩ : ∃ k, g = k + 1 := ⟨g - 1, by omega⟩
      have hd : n / 256 < n := Nat.div_lt_self (by omega) (by omega)
      simp only [encF, h0, if_false]
      rw [ih (n / 256) hd f g (by omega) (by omega)]
theorem enc_zero : enc 0 = [] := rfl
theorem enc_pos (n : Nat) (h : 0 < n) : enc n = enc (n / 256) ++ [UInt8.ofNat (n % 256)] := by
  unfold enc
  obtain ⟨k, rfl⟩ : ∃ k, n = k + 1 := ⟨n - 1, by omega⟩
  have hd : (k + 1) / 256 < k + 1 := Nat.div_lt_self (by omega) (by omega)
  simp only [encF, Nat.add_eq_zero_iff, Nat.succ_ne_self, and_false, if_false]
  rw [encF_enough ((k + 1) / 256) k ((k + 1) / 256) (by omega) (Nat.le_refl _)]
/-- one digit more behind: nothing is written while nothing has been -/
theorem enc_step (m d : Nat) (hd : d < 256) : enc (m * 256 + d) = if m = 0 ∧ d = 0 then [] else enc m ++ [UInt8.ofNat d] := by
  by_cases h : m = 0 ∧ d = 0
  · obtain ⟨rfl, rfl⟩ := h; simp [enc_zero]
  · rw [if_neg h, enc_pos _ (by omega)]
    rw [show (m * 256 + d) / 256 = m by omega, show (m * 256 + d) % 256 = d by omega]
theorem val_enc (n : Nat) : val (enc n) = n := by
  induction n using Nat.strongRecOn with
  | _ n ih =>
    by_cases h0 : n = 0
    · subst h0; rfl
    · rw [enc_pos n (by omega), val_snoc, ih (n / 256) (Nat.div_lt_self (by omega) (by omega))]
      have : (UInt8.ofNat (n % 256)).toNat = n % 256 := by simp
      omega
theorem enc_ne_nil (n : Nat) (h : 0 < n) : enc n ≠ [] := by rw [enc_pos n h]; simp
theorem natl_enc (n : Nat) : natl (enc n) = true := by
  induction n using Nat.strongRecOn with
  | _ n ih =>
    by_cases h0 : n = 0
    · subst h0; rfl
    · rw [enc_pos n (by omega)]
      by_cases h1 : n / 256 = 0
      · rw [h1, enc_zero]
        simp only [List.nil_append, natl, bne_iff_ne]
        intro h
        have := congrArg UInt8.toNat h
        simp at this
        omega
      · have := ih (n / 256) (Nat.div_lt_self (by omega) (by omega))
        cases he : enc (n / 256) with
        | nil => exact absurd he (enc_ne_nil _ (by omega))
        | cons b l => rw [he] at this; simpa [natl] using this
theorem natl_snoc (l : List UInt8) (b : UInt8) (h : natl (l ++ [b]) = true) : natl l = true ∧ (l = [] → b ≠ 0) := by
  cases l with
  | nil => simp [natl] at h ⊢; exact h
  | cons c l => simp [natl] at h ⊢; exact h
/-- recursion from the list's end -/
theorem snoc_rec {α : Type} {p : List α → Prop} (h0 : p []) (hs : ∀ l b, p l → p (l ++ [b])) : ∀ l, p l := by
  intro l
  have key : ∀ n (l : List α), l.length = n → p l := by
    intro n
    induction n with
    | zero => intro l hl; rw [List.eq_nil_of_length_eq_zero hl]; exact h0
    | succ n ih =>
      intro l hl
      have hne : l ≠ [] := by intro h; subst h; simp at hl
      rw [← List.dropLast_concat_getLast hne]
      exact hs _ _ (ih _ (by simp [hl]))
  exact key _ l rfl
theorem enc_val : ∀ l : List UInt8, natl l = true → enc (val l) = l := by
  refine snoc_rec ?_ ?_
  · intro _; rfl
  · intro l b ih h
    obtain ⟨h1, h2⟩ := natl_snoc l b h
    rw [val_snoc, enc_step _ _ b.toNat_lt, ih h1]
    have hb : UInt8.ofNat b.toNat = b := by simp
    rw [hb, if_neg]
    rintro ⟨hv, hb0⟩
    have hl : l = [] := by rw [← ih h1, hv, enc_zero]
    exact h2 hl (by rw [← hb, hb0]; rfl)
theorem enc_length_le (n k : Nat) : (enc n).length ≤ k ↔ n < 256 ^ k := by
  induction k generalizing n with
  | zero =>
    by_cases h : n = 0
    · subst h; simp [enc_zero]
    · have := enc_ne_nil n (by omega)
      have : 0 < (enc n).length := List.length_pos_iff.2 this
      rw [Nat.pow_zero]; omega
  | succ k ih =>
    by_cases h : n = 0
    · subst h; simp [enc_zero, Nat.pow_pos]
    · rw [enc_pos n (by omega), List.length_append, List.length_singleton, Nat.pow_succ]
      have := ih (n / 256)
      rw [Nat.div_lt_iff_lt_mul (by omega)] at this
      omega
theorem enc_inj {a b : Nat} (h : enc a = enc b) : a = b := by rw [← val_enc a, h, val_enc]
theorem val_inj {a b : List UInt8} (ha : natl a = true) (hb : natl b = true) (h : val a = val b) : a = b := by rw [← enc_val a ha, h, enc_val b hb]
theorem val_lt_of_length (l : List UInt8) (k : Nat) (h : l.length ≤ k) : val l < 256 ^ k :=
  Nat.lt_of_lt_of_le (val_lt l) (Nat.pow_le_pow_right (by omega) h)
theorem length_le_of_val (l : List UInt8) (hn : natl l = true) (k : Nat) (h : val l < 256 ^ k) : l.length ≤ k := by
  rw [← enc_val l hn]; exact (enc_length_le _ _).2 h
theorem val_eq_zero (l : List UInt8) (hn : natl l = true) : val l = 0 ↔ l = [] := by
  constructor
  · intro h; rw [← enc_val l hn, h]; rfl
  · intro h; rw [h]; rfl

/-! ### digits to the base 2^32 -/
def B32 : Nat := 4294967296
def dv : List Nat → Nat
  | [] => 0
  | d :: l => d + B32 * dv l
def small (l : List Nat) : Prop := ∀ x ∈ l, x < B32
def digF : Nat → Nat → List Nat
  | 0, _ => []
  | f + 1, n => if n = 0 then [] else (n % B32) :: digF f (n / B32)
def digs (n : Nat) : List Nat := digF n n

theorem digF_zero (f : Nat) : digF f 0 = [] := by cases f <;> simp [digF]
theorem digF_enough : ∀ (n f g : Nat), n ≤ f → n ≤ g → digF f n = digF g n := by
  intro n
  induction n using Nat.strongRecOn with
  | _ n ih =>
    intro f g hf hg
    by_cases h0 : n = 0
    · subst h0; rw [digF_zero, digF_zero]
    · obtain ⟨f, rfl⟩ : ∃ k, f = k + 1 := ⟨f - 1, by omega⟩
      obtain ⟨g, rfl⟩ : ∃ k, g = k + 1 := ⟨g - 1, by omega⟩
      have hd : n / B32 < n := Nat.div_lt_self (by omega) (by unfold B32; omega)
      simp only [digF, h0, if_false]
      rw [ih (n / B32) hd f g (by omega) (by omega)]
theorem digs_zero : digs 0 = [] := rfl
theorem digs_pos (n : Nat) (h : 0 < n) : digs n = (n % B32) :: digs (n / B32) := by
  unfold digs
  obtain ⟨k, rfl⟩ : ∃ k, n = k + 1 := ⟨n - 1, by omega⟩
  have hd : (k + 1) / B32 < k + 1 := Nat.div_lt_self (by omega) (by unfold B32; omega)
  simp only [digF, Nat.add_eq_zero_iff, Nat.succ_ne_self, and_false, if_false]
  rw [digF_enough ((k + 1) / B32) k ((k + 1) / B32) (by omega) (Nat.le_refl _)]
theorem dv_digs (n : Nat) : dv (digs n) = n := by
  induction n using Nat.strongRecOn with
  | _ n ih =>
    by_cases h0 : n = 0
    · subst h0; rfl
    · rw [digs_pos n (by omega), dv, ih (n / B32) (Nat.div_lt_self (by omega) (by unfold B32; omega))]
      exact Nat.mod_add_div n B32
theorem small_digs (n : Nat) : small (digs n) := by
  induction n using Nat.strongRecOn with
  | _ n ih =>
    by_cases h0 : n = 0
    · subst h0; intro x hx; simp [digs_zero] at hx
    · rw [digs_pos n (by omega)]
      intro x hx
      rcases List.mem_cons.1 hx with rfl | hx
      · exact Nat.mod_lt _ (by unfold B32; omega)
      · exact ih (n / B32) (Nat.div_lt_self (by omega) (by unfold B32; omega)) x hx
theorem digs_cons (d n : Nat) (hd : d < B32) (h : 0 < d ∨ 0 < n) : digs (d + B32 * n) = d :: digs n := by
  have hB : 0 < B32 := by unfold B32; omega
  have hp : 0 < d + B32 * n := by
    rcases h with h | h
    · omega
    · have := Nat.mul_pos hB h; omega
  rw [digs_pos _ hp, Nat.add_mul_mod_self_left, Nat.mod_eq_of_lt hd, Nat.add_mul_div_left _ _ hB, Nat.div_eq_of_lt hd, Nat.zero_add]
/-- zeros behind the most significant digit -/
def trimL (l : List Nat) : List Nat := digs (dv l)
theorem small_tail {d : Nat} {l : List Nat} (h : small (d :: l)) : d < B32 ∧ small l := ⟨h d (by simp), fun x hx => h x (by simp [hx])⟩
theorem dv_eq_zero : ∀ l : List Nat, dv l = 0 → l = List.replicate l.length 0
  | [], _ => rfl
  | d :: l, h => by
    have hB : 0 < B32 := by unfold B32; omega
    simp only [dv] at h
    have h1 : d = 0 := by omega
    have h2 : dv l = 0 := by
      rcases Nat.eq_zero_or_pos (dv l) with h2 | h2
      · exact h2
      · have := Nat.mul_pos hB h2; omega
    subst h1
    have := dv_eq_zero l h2
    simp only [List.length_cons, List.replicate_succ]
    rw [← this]
theorem trim_split : ∀ l : List Nat, small l → l = digs (dv l) ++ List.replicate (l.length - (digs (dv l)).length) 0 ∧ (digs (dv l)).length ≤ l.length
  | [], _ => by simp [dv, digs_zero]
  | d :: l, h => by
    obtain ⟨h1, h2⟩ := small_tail h
    obtain ⟨i1, i2⟩ := trim_split l h2
    by_cases hz : d = 0 ∧ dv l = 0
    · obtain ⟨rfl, h3⟩ := hz
      have := dv_eq_zero l h3
      simp only [dv, h3, digs_zero, Nat.mul_zero, Nat.add_zero, List.nil_append, List.length_nil, Nat.sub_zero, List.length_cons, List.replicate_succ, Nat.zero_le, and_true]
      rw [← this]
    · have hp : 0 < d ∨ 0 < dv l := by omega
      simp only [dv]
      rw [digs_cons d (dv l) h1 hp]
      simp only [List.length_cons, List.cons_append, List.cons.injEq, true_and]
      exact ⟨by rw [show l.length + 1 - ((digs (dv l)).length + 1) = l.length - (digs (dv l)).length by omega]; exact i1, by omega⟩
theorem dv_append (l m : List Nat) : dv (l ++ m) = dv l + B32 ^ l.length * dv m := by
  induction l with
  | nil => simp [dv]
  | cons d l ih =>
    simp only [List.cons_append, dv, ih, List.length_cons, Nat.pow_succ]
    rw [Nat.mul_add, ← Nat.mul_assoc, Nat.mul_comm B32 (B32 ^ l.length)]
    omega
theorem dv_lt (l : List Nat) (h : small l) : dv l < B32 ^ l.length := by
  induction l with
  | nil => simp [dv]
  | cons d l ih =>
    obtain ⟨h1, h2⟩ := small_tail h
    have := ih h2
    simp only [dv, List.length_cons, Nat.pow_succ]
    have h3 : B32 * (dv l + 1) ≤ B32 * B32 ^ l.length := Nat.mul_le_mul_left _ this
    rw [Nat.mul_comm (B32 ^ l.length)]
    rw [Nat.mul_add] at h3
    omega
theorem digs_dv (l : List Nat) (h : small l) (hn : l.getLast? ≠ some 0) : digs (dv l) = l := by
  obtain ⟨h1, h2⟩ := trim_split l h
  by_cases he : l.length - (digs (dv l)).length = 0
  · rw [he] at h1; simpa using h1.symm
  · exfalso
    apply hn
    rw [h1]
    obtain ⟨k, hk⟩ : ∃ k, l.length - (digs (dv l)).length = k + 1 := ⟨l.length - (digs (dv l)).length - 1, by omega⟩
    rw [hk, List.replicate_succ', ← List.append_assoc]
    simp
theorem digs_last (n : Nat) : (digs n).getLast? ≠ some 0 := by
  induction n using Nat.strongRecOn with
  | _ n ih =>
    by_cases h0 : n = 0
    · subst h0; simp [digs_zero]
    · rw [digs_pos n (by omega)]
      by_cases h1 : n / B32 = 0
      · rw [h1, digs_zero]
        have : n % B32 = n := by
          have := Nat.mod_add_div n B32
          rw [h1] at this; omega
        simp [this, h0]
      · have := ih (n / B32) (Nat.div_lt_self (by omega) (by unfold B32; omega))
        have h2 : 0 < n / B32 := Nat.pos_of_ne_zero h1
        rw [digs_pos (n / B32) h2] at this ⊢
        simpa [List.getLast?_cons_cons] using this
theorem digs_length_le (n k : Nat) : (digs n).length ≤ k ↔ n < B32 ^ k := by
  induction k generalizing n with
  | zero =>
    by_cases h : n = 0
    · subst h; simp [digs_zero]
    · rw [digs_pos n (by omega), Nat.pow_zero, List.length_cons]; omega
  | succ k ih =>
    by_cases h : n = 0
    · subst h; simp [digs_zero, Nat.pow_pos, B32]
    · rw [digs_pos n (by omega), List.length_cons, Nat.pow_succ]
      have := ih (n / B32)
      rw [Nat.div_lt_iff_lt_mul (by unfold B32; omega)] at this
      omega
theorem digs_eq_nil (n : Nat) : digs n = [] ↔ n = 0 := by
  constructor
  · intro h; rw [← dv_digs n, h]; rfl
  · intro h; subst h; rfl

/-! ### a fixed number of digits of a number -/
def dgl (n N : Nat) : List Nat := (List.range n).map fun j => N / B32 ^ j % B32
theorem dgl_length (n N : Nat) : (dgl n N).length = n := by simp [dgl]
theorem dgl_get (n N j : Nat) (h : j < n) : (dgl n N)[j]'(by rw [dgl_length]; exact h) = N / B32 ^ j % B32 := by simp [dgl]
theorem small_dgl (n N : Nat) : small (dgl n N) := by
  intro x hx
  simp only [dgl, List.mem_map] at hx
  obtain ⟨j, _, rfl⟩ := hx
  exact Nat.mod_lt _ (by unfold B32; omega)
theorem map_range_succ (f : Nat → Nat) (n : Nat) : (List.range (n + 1)).map f = f 0 :: (List.range n).map fun j => f (j + 1) := by
  rw [List.range_succ_eq_map, List.map_cons, List.map_map]; rfl
theorem pow_shift (b N j : Nat) : N / b ^ (j + 1) % b = N / b / b ^ j % b := by
  rw [Nat.div_div_eq_div_mul, Nat.pow_succ, Nat.mul_comm b]
theorem pow_first (b N : Nat) : N / b ^ 0 % b = N % b := by rw [Nat.pow_zero, Nat.div_one]
theorem dgl_succ (n N : Nat) : dgl (n + 1) N = (N % B32) :: dgl n (N / B32) := by
  unfold dgl
  rw [map_range_succ, pow_first]
  exact congrArg _ (List.map_congr_left fun j _ => pow_shift B32 N j)
theorem dv_dgl (n : Nat) : ∀ N, dv (dgl n N) = N % B32 ^ n := by
  induction n with
  | zero => intro N; simp [dgl, dv, Nat.mod_one]
  | succ n ih =>
    intro N
    rw [dgl_succ, dv, ih, Nat.pow_succ, Nat.mul_comm (B32 ^ n)]
    exact (Nat.mod_mul).symm
theorem B32_two : B32 = 2 ^ 32 := by simp [B32]
theorem B32_pow (k : Nat) : B32 ^ k = 2 ^ (32 * k) := by rw [B32_two, ← Nat.pow_mul]
theorem dgl_zero (n : Nat) : dgl n 0 = List.replicate n 0 := by
  unfold dgl
  simp [List.map_const']
/-- one small number shifted in by 'or' turns one digit alone -/
theorem dgl_or (n N c p : Nat) (hc : c < 2 ^ (32 - p % 32)) :
    (dgl n N).set (p / 32) ((N / B32 ^ (p / 32) % B32) ||| (c <<< (p % 32))) = dgl n (N ||| (c <<< p)) := by
  apply List.ext_getElem
  · simp [dgl_length]
  · intro j h1 h2
    have hj : j < n := by simpa [dgl_length] using h2
    rw [List.getElem_set, dgl_get n _ j hj]
    have hdig : ∀ M : Nat, ∀ j i, (M / B32 ^ j % B32).testBit i = (decide (i < 32) && M.testBit (32 * j + i)) := by
      intro M j i
      rw [B32_pow, B32_two, Nat.testBit_mod_two_pow, Nat.testBit_div_two_pow, Nat.add_comm i]
    have hc' : ∀ i, 32 - p % 32 ≤ i → c.testBit i = false := fun i hi =>
      Nat.testBit_lt_two_pow (Nat.lt_of_lt_of_le hc (Nat.pow_le_pow_right (by omega) hi))
    split
    · rename_i he
      subst he
      apply Nat.eq_of_testBit_eq
      intro i
      rw [dgl_get n _ (p / 32) hj, Nat.testBit_or, hdig, hdig, Nat.testBit_or, Nat.testBit_shiftLeft, Nat.testBit_shiftLeft]
      have e1 : (32 * (p / 32) + i ≥ p) ↔ (i ≥ p % 32) := by omega
      have e2 : 32 * (p / 32) + i - p = i - p % 32 := by omega
      rw [e2]
      by_cases hi : i < 32
      · by_cases hg : i ≥ p % 32
        · simp [hi, hg, e1.2 hg]
        · have : ¬ (32 * (p / 32) + i ≥ p) := by omega
          simp [hi, hg, this]
      · have hz : c.testBit (i - p % 32) = false := hc' _ (by omega)
        simp [hi, hz]
    · rename_i he
      rw [dgl_get n _ j hj]
      apply Nat.eq_of_testBit_eq
      intro i
      rw [hdig, hdig, Nat.testBit_or, Nat.testBit_shiftLeft]
      by_cases hi : i < 32
      · by_cases hg : 32 * j + i ≥ p
        · have hz : c.testBit (32 * j + i - p) = false := hc' _ (by omega)
          simp [hz]
        · simp [hg]
      · simp [hi]

/-! ### strings -/
def nv (s : ByteArray) : Nat := val s.data.toList
def isN (s : ByteArray) : Bool := natl s.data.toList
def encS (n : Nat) : ByteArray := ⟨(enc n).toArray⟩
theorem nv_encS (n : Nat) : nv (encS n) = n := by simp [nv, encS, val_enc]
theorem isN_encS (n : Nat) : isN (encS n) = true := by simp [isN, encS, natl_enc]
theorem encS_nv (s : ByteArray) (h : isN s = true) : encS (nv s) = s := by
  unfold encS nv; rw [enc_val _ h]
theorem size_encS (n : Nat) : (encS n).size = (enc n).length := by simp [encS, ByteArray.size]
theorem encS_inj {a b : Nat} (h : encS a = encS b) : a = b := by rw [← nv_encS a, h, nv_encS]
theorem encS_size_le (n k : Nat) : (encS n).size ≤ k ↔ n < 256 ^ k := by rw [size_encS]; exact enc_length_le n k
theorem nv_lt (s : ByteArray) : nv s < 256 ^ s.size := by
  have h : s.data.toList.length = s.size := by rw [Array.length_toList]; rfl
  rw [← h]; exact val_lt s.data.toList

theorem slen (s : ByteArray) : s.data.toList.length = s.size := by rw [Array.length_toList]; rfl
/-- the number of a string's first k bytes, the others 0 -/
def wnum (s : ByteArray) (k : Nat) : Nat := val (s.data.toList.take k) * 256 ^ (s.size - k)
theorem wnum_zero (s : ByteArray) : wnum s 0 = 0 := by simp [wnum, val]
theorem wnum_all (s : ByteArray) : wnum s s.size = nv s := by
  rw [wnum, Nat.sub_self, Nat.pow_zero, Nat.mul_one, List.take_of_length_le (by rw [slen]; exact Nat.le_refl _)]; rfl
theorem take_snoc (s : ByteArray) (k : Nat) (h : k < s.size) : s.data.toList.take (k + 1) = s.data.toList.take k ++ [s[k]] := by
  rw [List.take_succ_eq_append_getElem (by simpa using h)]; rfl
theorem two_256 (a : Nat) : 256 ^ a = 2 ^ (8 * a) := by rw [show (256 : Nat) = 2 ^ 8 by simp, ← Nat.pow_mul]
theorem wnum_succ (s : ByteArray) (k : Nat) (h : k < s.size) : wnum s (k + 1) = wnum s k ||| (s[k].toNat <<< (8 * (s.size - 1 - k))) := by
  obtain ⟨a, ha⟩ : ∃ a, a = s.size - 1 - k := ⟨_, rfl⟩
  have e1 : s.size - k = a + 1 := by omega
  have e2 : s.size - (k + 1) = a := by omega
  rw [wnum, wnum, take_snoc s k h, val_snoc, e1, e2, ← ha, Nat.shiftLeft_eq]
  generalize val (s.data.toList.take k) = m
  have hb := s[k].toNat_lt
  rw [two_256, two_256, ← Nat.shiftLeft_eq, ← Nat.shiftLeft_eq, ← Nat.shiftLeft_eq]
  rw [show 8 * (a + 1) = 8 + 8 * a by omega, Nat.shiftLeft_add, ← Nat.shiftLeft_or_distrib]
  congr 1
  rw [← Nat.shiftLeft_add_eq_or_of_lt (by omega), Nat.shiftLeft_eq]

theorem dgl_digs (n N : Nat) (h1 : N < B32 ^ n) (h2 : 0 < n → B32 ^ (n - 1) ≤ N) : dgl n N = digs N := by
  have hd : dv (dgl n N) = N := by rw [dv_dgl, Nat.mod_eq_of_lt h1]
  obtain ⟨s1, s2⟩ := trim_split (dgl n N) (small_dgl n N)
  rw [hd, dgl_length] at s1 s2
  have hl : n ≤ (digs N).length := by
    rcases Nat.eq_zero_or_pos n with h0 | h0
    · omega
    · have := h2 h0
      have h3 := digs_length_le N (n - 1)
      omega
  rw [s1, show n - (digs N).length = 0 by omega]; simp
theorem nv_ge (s : ByteArray) (hn : isN s = true) (h : 0 < s.size) : 256 ^ (s.size - 1) ≤ nv s := by
  have h1 := length_le_of_val s.data.toList hn (s.size - 1)
  rw [slen] at h1
  have : ¬ val s.data.toList < 256 ^ (s.size - 1) := fun h2 => by have := h1 h2; omega
  unfold nv; omega
theorem words_digs (s : ByteArray) (hn : isN s = true) : dgl ((s.size + 3) / 4) (nv s) = digs (nv s) := by
  apply dgl_digs
  · have := nv_lt s
    refine Nat.lt_of_lt_of_le this ?_
    rw [B32_pow, two_256]
    exact Nat.pow_le_pow_right (by omega) (by omega)
  · intro h
    refine Nat.le_trans ?_ (nv_ge s hn (by omega))
    rw [B32_pow, two_256]
    exact Nat.pow_le_pow_right (by omega) (by omega)
theorem isN_iff (s : ByteArray) : isN s = true ↔ s = encS (nv s) := ⟨fun h => (encS_nv s h).symm, fun h => by rw [h]; exact isN_encS _⟩
theorem nv_size (s : ByteArray) (hn : isN s = true) (k : Nat) : s.size ≤ k ↔ nv s < 256 ^ k := by
  have := encS_size_le (nv s) k
  rw [encS_nv s hn] at this; exact this

/-! ### cutting zeros off -/
theorem dv_take_zero (xs : List Nat) (m : Nat) (h : m < xs.length) (hz : xs[m] = 0) : dv (xs.take (m + 1)) = dv (xs.take m) := by
  rw [List.take_succ_eq_append_getElem h, dv_append, hz]; simp [dv]
theorem small_take {xs : List Nat} (h : small xs) (m : Nat) : small (xs.take m) := fun x hx => h x (List.mem_of_mem_take hx)
theorem take_digs (xs : List Nat) (hs : small xs) (m : Nat) (hm : m ≤ xs.length) (hd : dv (xs.take m) = dv xs) (hz : ∀ h : 0 < m, xs[m - 1] ≠ 0) : xs.take m = digs (dv xs) := by
  rw [← hd]
  refine (digs_dv _ (small_take hs m) ?_).symm
  rcases Nat.eq_zero_or_pos m with h0 | h0
  · subst h0; simp
  · rw [List.getLast?_eq_getElem?, List.length_take, Nat.min_eq_left hm, List.getElem?_take, if_pos (by omega)]
    simp [show m - 1 < xs.length by omega, hz h0]

/-! ### comparing digits -/
def cmpN (n m : Nat) : Int := if n < m then -1 else if n = m then 0 else 1
theorem cmpN_lt {n m : Nat} (h : n < m) : cmpN n m = -1 := if_pos h
theorem cmpN_eq {n m : Nat} (h : n = m) : cmpN n m = 0 := by subst h; simp [cmpN]
theorem cmpN_gt {n m : Nat} (h : m < n) : cmpN n m = 1 := by rw [cmpN, if_neg (by omega), if_neg (by omega)]
theorem digs_lt_of_length {n m : Nat} (h : (digs n).length < (digs m).length) : n < m := by
  have h1 := (digs_length_le n (digs n).length).1 (Nat.le_refl _)
  have h2 := digs_length_le m (digs n).length
  have : ¬ m < B32 ^ (digs n).length := fun h3 => by have := h2.2 h3; omega
  omega
theorem dv_drop_take (xs : List Nat) (k : Nat) (h : k ≤ xs.length) : dv xs = dv (xs.take k) + B32 ^ k * dv (xs.drop k) := by
  have := dv_append (xs.take k) (xs.drop k)
  rw [List.take_append_drop, List.length_take, Nat.min_eq_left h] at this
  exact this
theorem dv_drop_succ (xs : List Nat) (k : Nat) (h : k < xs.length) : dv (xs.drop k) = xs[k] + B32 * dv (xs.drop (k + 1)) := by
  rw [List.drop_eq_getElem_cons h, dv]
/-- the most significant digits being the same, the first that differ decide -/
theorem dv_lt_of_digit (xs ys : List Nat) (hx : small xs) (k : Nat) (h1 : k < xs.length) (h2 : k < ys.length) (hd : xs.drop (k + 1) = ys.drop (k + 1)) (hlt : xs[k] < ys[k]) : dv xs < dv ys := by
  rw [dv_drop_take xs k (by omega), dv_drop_take ys k (by omega), dv_drop_succ xs k h1, dv_drop_succ ys k h2, hd]
  have h3 := dv_lt (xs.take k) (small_take hx k)
  rw [List.length_take, Nat.min_eq_left (by omega)] at h3
  generalize dv (ys.drop (k + 1)) = m
  have h4 : B32 ^ k * (xs[k] + B32 * m + 1) ≤ B32 ^ k * (ys[k] + B32 * m) := Nat.mul_le_mul_left _ (by omega)
  rw [Nat.mul_add] at h4
  omega

theorem digs_dgl (V : Nat) : digs V = dgl (digs V).length V := by
  refine (dgl_digs _ _ ((digs_length_le V _).1 (Nat.le_refl _)) fun h => ?_).symm
  have := digs_length_le V ((digs V).length - 1)
  have h2 : ¬ V < B32 ^ ((digs V).length - 1) := fun h3 => by have := this.2 h3; omega
  omega
theorem digs_get (V i : Nat) (h : i < (digs V).length) : (digs V)[i] = V / B32 ^ i % B32 := by
  have h1 := dgl_get (digs V).length V i h
  have h2 : (digs V)[i]? = (dgl (digs V).length V)[i]? := by rw [← digs_dgl]
  rw [List.getElem?_eq_getElem h, List.getElem?_eq_getElem (by rw [dgl_length]; exact h), h1] at h2
  exact Option.some.inj h2
theorem byte_of (V i k : Nat) (hk : k < 4) : V / B32 ^ i % B32 / 2 ^ (8 * k) % 256 = V / 256 ^ (4 * i + k) % 256 := by
  apply Nat.eq_of_testBit_eq
  intro j
  rw [show (256 : Nat) = 2 ^ 8 by simp, Nat.testBit_mod_two_pow, Nat.testBit_mod_two_pow, ← Nat.pow_mul, Nat.testBit_div_two_pow, Nat.testBit_div_two_pow, B32_pow, B32_two, Nat.testBit_mod_two_pow, Nat.testBit_div_two_pow]
  by_cases hj : j < 8
  · have : j + 8 * k < 32 := by omega
    simp only [hj, this, decide_true, Bool.true_and]
    congr 1; omega
  · simp [hj]
/-- the bytes of the number V from the p-th on -/
def top (V p : Nat) : List UInt8 := enc (V / 256 ^ p)
theorem top_zero (V : Nat) : top V 0 = enc V := by simp [top]
theorem top_all (V p : Nat) (h : V < 256 ^ p) : top V p = [] := by rw [top, Nat.div_eq_of_lt h, enc_zero]
theorem top_succ (V p : Nat) : top V p = if (top V (p + 1)).length = 0 ∧ V / 256 ^ p % 256 = 0 then [] else top V (p + 1) ++ [UInt8.ofNat (V / 256 ^ p % 256)] := by
  have e : V / 256 ^ p = V / 256 ^ (p + 1) * 256 + V / 256 ^ p % 256 := by
    rw [Nat.pow_succ, ← Nat.div_div_eq_div_mul]; omega
  have h1 : (top V (p + 1)).length = 0 ↔ V / 256 ^ (p + 1) = 0 := by
    unfold top
    rw [List.length_eq_zero_iff]
    constructor
    · intro h; rw [← val_enc (V / 256 ^ (p + 1)), h]; rfl
    · intro h; rw [h]; rfl
  simp only [h1]
  conv => lhs; unfold top; rw [e]
  rw [enc_step _ _ (Nat.mod_lt _ (by omega))]
  rfl
theorem top_length (V p : Nat) : (top V p).length ≤ (enc V).length := (enc_length_le _ _).2 (Nat.lt_of_le_of_lt (Nat.div_le_self _ _) ((enc_length_le _ _).1 (Nat.le_refl _)))
theorem enc_length_digs (V : Nat) : (enc V).length ≤ 4 * (digs V).length := by
  rw [enc_length_le, two_256, show 8 * (4 * (digs V).length) = 32 * (digs V).length by omega, ← B32_pow]
  exact (digs_length_le _ _).1 (Nat.le_refl _)

theorem norm_len (xs : List Nat) (hs : small xs) (h : 0 < xs.length → B32 ^ (xs.length - 1) ≤ dv xs) : digs (dv xs) = xs := by
  obtain ⟨s1, s2⟩ := trim_split xs hs
  have hl : xs.length ≤ (digs (dv xs)).length := by
    rcases Nat.eq_zero_or_pos xs.length with h0 | h0
    · omega
    · have := h h0
      have h3 := digs_length_le (dv xs) (xs.length - 1)
      omega
  conv => rhs; rw [s1]
  rw [show xs.length - (digs (dv xs)).length = 0 by omega]; simp
theorem digs_ge (n : Nat) (h : 0 < (digs n).length) : B32 ^ ((digs n).length - 1) ≤ n := by
  have := digs_length_le n ((digs n).length - 1)
  have h2 : ¬ n < B32 ^ ((digs n).length - 1) := fun h3 => by have := this.2 h3; omega
  omega
theorem digs_lt (n : Nat) : n < B32 ^ (digs n).length := (digs_length_le n _).1 (Nat.le_refl _)
theorem dv_snoc (xs : List Nat) (d : Nat) : dv (xs ++ [d]) = dv xs + B32 ^ xs.length * d := by rw [dv_append]; simp [dv]
theorem dv_take_succ (xs : List Nat) (k : Nat) (h : k < xs.length) : dv (xs.take (k + 1)) = dv (xs.take k) + B32 ^ k * xs[k] := by
  rw [List.take_succ_eq_append_getElem h, dv_snoc, List.length_take, Nat.min_eq_left (by omega)]
theorem dv_take_getD (xs : List Nat) (k : Nat) : dv (xs.take (k + 1)) = dv (xs.take k) + B32 ^ k * xs.getD k 0 := by
  by_cases h : k < xs.length
  · rw [dv_take_succ xs k h]; simp [List.getD, h]
  · rw [List.take_of_length_le (by omega), List.take_of_length_le (by omega)]; simp [List.getD, List.getElem?_eq_none (by omega : xs.length ≤ k)]
theorem small_snoc {xs : List Nat} {d : Nat} (h : small xs) (hd : d < B32) : small (xs ++ [d]) := by
  intro x hx
  rcases List.mem_append.1 hx with hx | hx
  · exact h x hx
  · simp at hx; omega
theorem getD_lt {xs : List Nat} (h : small xs) (k : Nat) : xs.getD k 0 < B32 := by
  by_cases hk : k < xs.length
  · simp only [List.getD, List.getElem?_eq_getElem hk]; exact h _ (List.getElem_mem _)
  · simp only [List.getD, List.getElem?_eq_none (by omega : xs.length ≤ k)]; show 0 < B32; unfold B32; omega
/-- one digit of a subtraction -/
theorem less_step (R A C : List Nat) (k c c' r : Nat) (hR : R.length = k) (hinv : dv R + dv (C.take k) = dv (A.take k) + c * B32 ^ k) (hr : r + c + C.getD k 0 = A.getD k 0 + c' * B32) :
    dv (R ++ [r]) + dv (C.take (k + 1)) = dv (A.take (k + 1)) + c' * B32 ^ (k + 1) := by
  rw [dv_snoc, dv_take_getD, dv_take_getD, hR, Nat.pow_succ]
  generalize B32 ^ k = p at *
  generalize C.getD k 0 = y at *
  generalize A.getD k 0 = x at *
  have h1 : p * (r + c + y) = p * (x + c' * B32) := by rw [hr]
  rw [Nat.mul_add, Nat.mul_add, Nat.mul_add] at h1
  have e1 : c * p = p * c := Nat.mul_comm _ _
  have e2 : c' * (p * B32) = p * (c' * B32) := by rw [← Nat.mul_assoc, ← Nat.mul_assoc, Nat.mul_comm c' p]
  rw [e2]; omega
theorem less_end (R : List Nat) (n m c : Nat) (hs : small R) (hR : R.length = (digs n).length) (hmn : m ≤ n) (hc : c ≤ 1)
    (hinv : dv R + dv ((digs m).take (digs n).length) = dv ((digs n).take (digs n).length) + c * B32 ^ (digs n).length) : dv R = n - m := by
  have hl : (digs m).length ≤ (digs n).length := (digs_length_le m _).2 (Nat.lt_of_le_of_lt hmn (digs_lt n))
  rw [List.take_of_length_le hl, List.take_length, dv_digs, dv_digs] at hinv
  have h1 := dv_lt R hs
  rw [hR] at h1
  have h2 : c = 0 := by
    rcases Nat.eq_zero_or_pos c with h | h
    · exact h
    · have : c = 1 := by omega
      subst this
      omega
  subst h2; omega
/-- one digit of a doubling -/
theorem double_step (R A : List Nat) (k c b0 : Nat) (hR : R.length = k) (hinv : dv R + c * B32 ^ k = 2 * dv (A.take k) + b0) :
    dv (R ++ [(2 * A.getD k 0 + c) % B32]) + (2 * A.getD k 0 + c) / B32 * B32 ^ (k + 1) = 2 * dv (A.take (k + 1)) + b0 := by
  rw [dv_snoc, dv_take_getD, hR, Nat.pow_succ]
  generalize B32 ^ k = p at *
  generalize A.getD k 0 = x at *
  have h := Nat.mod_add_div (2 * x + c) B32
  generalize (2 * x + c) % B32 = r at *
  generalize (2 * x + c) / B32 = q at *
  have h1 : p * (r + B32 * q) = p * (2 * x + c) := by rw [h]
  rw [Nat.mul_add, Nat.mul_add] at h1
  have e1 : c * p = p * c := Nat.mul_comm _ _
  have e2 : q * (p * B32) = p * (B32 * q) := by rw [Nat.mul_comm B32 q, ← Nat.mul_assoc, ← Nat.mul_assoc, Nat.mul_comm q p]
  have e3 : p * (2 * x) = 2 * (p * x) := by rw [← Nat.mul_assoc, Nat.mul_comm p 2, Nat.mul_assoc]
  rw [e2, Nat.mul_add]; omega
theorem double_end (R : List Nat) (n c b0 : Nat) (hs : small R) (hR : R.length = (digs n).length) (hb : b0 ≤ 1) (hinv : dv R + c * B32 ^ (digs n).length = 2 * n + b0) :
    (if 0 < c then R ++ [c] else R) = digs (2 * n + b0) ∧ c ≤ 1 := by
  have hlt := digs_lt n
  have hc : c ≤ 1 := by
    rcases Nat.lt_or_ge c 2 with h | h
    · omega
    · have : 2 * B32 ^ (digs n).length ≤ c * B32 ^ (digs n).length := Nat.mul_le_mul_right _ h
      omega
  refine ⟨?_, hc⟩
  by_cases h0 : 0 < c
  · have : c = 1 := by omega
    subst this
    rw [if_pos h0, ← hinv, Nat.one_mul]
    have e : dv R + B32 ^ (digs n).length = dv (R ++ [1]) := by rw [dv_snoc, hR, Nat.mul_one]
    rw [e]
    refine (digs_dv _ (small_snoc hs (by unfold B32; omega)) (by simp)).symm
  · have : c = 0 := by omega
    subst this
    rw [if_neg (by omega)]
    have hd : dv R = 2 * n + b0 := by omega
    rw [← hd]
    refine (norm_len R hs fun hp => ?_).symm
    have := digs_ge n (by omega)
    rw [hR]; omega

theorem bit_of (V p : Nat) : V / B32 ^ (p / 32) % B32 / 2 ^ (p % 32) % 2 = V / 2 ^ p % 2 := by
  apply Nat.eq_of_testBit_eq
  intro j
  rw [show (2 : Nat) = 2 ^ 1 by simp, Nat.testBit_mod_two_pow, Nat.testBit_mod_two_pow, show (2 ^ 1 : Nat) = 2 by simp, Nat.testBit_div_two_pow, Nat.testBit_div_two_pow, B32_pow, B32_two, Nat.testBit_mod_two_pow, Nat.testBit_div_two_pow]
  by_cases hj : j < 1
  · have : j + p % 32 < 32 := by omega
    simp only [hj, this, decide_true, Bool.true_and]
    congr 1; omega
  · simp [hj]

/-! ### long division, bit by bit -/
abbrev BitAt (N : Nat) : Type := { p : Nat × Nat // (0 < N → p.1 < N) ∧ p.2 ≤ 1 }
def bitAt (V N i : Nat) : BitAt N := ⟨(N - 1 - i, V / 2 ^ (N - 1 - i) % 2), fun h => by show N - 1 - i < N; omega, by show V / 2 ^ (N - 1 - i) % 2 ≤ 1; omega⟩
/-- what has come when j rounds are over -/
def bitsUpto (V N j : Nat) : List (BitAt N) := (List.range j).map (bitAt V N)
theorem bitsUpto_succ (V N j : Nat) : bitsUpto V N (j + 1) = bitsUpto V N j ++ [bitAt V N j] := by simp [bitsUpto, List.range_succ]
theorem bitsUpto_length (V N j : Nat) : (bitsUpto V N j).length = j := by simp [bitsUpto]
def divStep (m : Nat) (s : Nat × Nat) (at_ b : Nat) : Nat × Nat :=
  if m ≤ 2 * s.2 + b then (s.1 ||| (1 <<< at_), 2 * s.2 + b - m) else (s.1, 2 * s.2 + b)
/-- quotient so far, remainder so far -/
def divSt (m : Nat) {N : Nat} (pre : List (BitAt N)) : Nat × Nat := pre.foldl (fun s x => divStep m s x.1.1 x.1.2) (0, 0)
theorem divSt_snoc (m : Nat) {N : Nat} (pre : List (BitAt N)) (x : BitAt N) : divSt m (pre ++ [x]) = divStep m (divSt m pre) x.1.1 x.1.2 := by simp [divSt]
theorem divSt_nil (m : Nat) {N : Nat} : divSt m ([] : List (BitAt N)) = (0, 0) := rfl
theorem divSt_lt (m : Nat) (hm : 0 < m) {N : Nat} : ∀ pre : List (BitAt N), (divSt m pre).2 < m := by
  refine snoc_rec ?_ ?_
  · rw [divSt_nil]; exact hm
  · intro pre x ih
    have := x.2.2
    rw [divSt_snoc, divStep]
    split
    · show 2 * (divSt m pre).2 + x.1.2 - m < m; omega
    · show 2 * (divSt m pre).2 + x.1.2 < m; omega
theorem divSt_upto (n m N : Nat) (hm : 0 < m) (hn : n < 2 ^ N) : ∀ j, j ≤ N → divSt m (bitsUpto n N j) = ((n / 2 ^ (N - j) / m) <<< (N - j), n / 2 ^ (N - j) % m) := by
  intro j
  induction j with
  | zero =>
    intro _
    rw [Nat.sub_zero, Nat.div_eq_of_lt hn]
    simp [bitsUpto, divSt]
  | succ j ih =>
    intro hj
    rw [bitsUpto_succ, divSt_snoc, ih (by omega)]
    obtain ⟨p, hp⟩ : ∃ p, p = N - 1 - j := ⟨_, rfl⟩
    have e1 : N - j = p + 1 := by omega
    have e2 : N - (j + 1) = p := by omega
    rw [e1, e2]
    unfold divStep bitAt
    simp only [← hp]
    obtain ⟨M, hM⟩ : ∃ M, M = n / 2 ^ p := ⟨_, rfl⟩
    have e3 : n / 2 ^ (p + 1) = M / 2 := by rw [Nat.pow_succ, ← Nat.div_div_eq_div_mul, hM]
    rw [e3, ← hM]
    have e4 : M = 2 * (M / 2) + M % 2 := by omega
    have h1 := Nat.div_add_mod (M / 2) m
    have h2 := Nat.mod_lt (M / 2) hm
    generalize M / 2 / m = Q at *
    generalize M / 2 % m = r at *
    have e5 : M = 2 * (m * Q) + (2 * r + M % 2) := by omega
    have h3 : M % 2 ≤ 1 := by omega
    generalize hb : M % 2 = b at *
    have e6 : 2 * (m * Q) = m * (2 * Q) := by rw [← Nat.mul_assoc, Nat.mul_comm 2 m, Nat.mul_assoc]
    split
    · rename_i hle
      have e7 : M = m * (2 * Q + 1) + (2 * r + b - m) := by rw [Nat.mul_add]; omega
      have e8 : M / m = 2 * Q + 1 := by rw [e7, Nat.mul_add_div hm, Nat.div_eq_of_lt (by omega), Nat.add_zero]
      have e9 : M % m = 2 * r + b - m := by rw [e7, Nat.mul_add_mod, Nat.mod_eq_of_lt (by omega)]
      rw [e8, e9]
      congr 1
      rw [show p + 1 = 1 + p by omega, Nat.shiftLeft_add, ← Nat.shiftLeft_or_distrib]
      congr 1
      have h := Nat.shiftLeft_add_eq_or_of_lt (show 1 < 2 ^ 1 by omega) Q
      rw [← h, Nat.shiftLeft_eq]; omega
    · rename_i hle
      have e8 : M / m = 2 * Q := by rw [e5, e6, Nat.mul_add_div hm, Nat.div_eq_of_lt (by omega), Nat.add_zero]
      have e9 : M % m = 2 * r + b := by rw [e5, e6, Nat.mul_add_mod, Nat.mod_eq_of_lt (by omega)]
      rw [e8, e9, show p + 1 = 1 + p by omega, Nat.shiftLeft_add, Nat.shiftLeft_eq Q 1, show Q * 2 ^ 1 = 2 * Q by omega]
theorem divSt_all (n m N : Nat) (hm : 0 < m) (hn : n < 2 ^ N) : divSt m (bitsUpto n N N) = (n / m, n % m) := by
  rw [divSt_upto n m N hm hn N (Nat.le_refl _), Nat.sub_self]
  simp

theorem digs_twice (x m k : Nat) (h : (digs m).length ≤ k) (hx : x < 2 * m) : (digs x).length ≤ k + 1 := by
  rw [digs_length_le] at h ⊢
  rw [Nat.pow_succ]
  generalize B32 ^ k = X at h
  have : X * 2 ≤ X * B32 := Nat.mul_le_mul_left _ (by unfold B32; omega)
  omega

/-! ### what the functions hand back -/
def bE : ByteArray := ⟨#[]⟩
def chkN (ss : List ByteArray) : Int := if ss.all isN then if ss.all (fun s => decide (s.size ≤ 256)) then 0 else 2 else 60
def shortN (n : Nat) : ByteArray × Int := if (encS n).size ≤ 256 then (encS n, 0) else (bE, 2)
def ofF (n : Int) : ByteArray × Int := if n < 0 then (bE, 1) else (encS n.toNat, 0)
def intF (s : ByteArray) : Int × Bool := if isN s = true ∧ s.size ≤ 8 ∧ nv s < 9223372036854775808 then ((nv s : Int), true) else (0, false)
def cmpF (a b : ByteArray) : Int × Int := if chkN [a, b] = 0 then (cmpN (nv a) (nv b), 0) else (0, chkN [a, b])
def addF (a b : ByteArray) : ByteArray × Int := if chkN [a, b] = 0 then shortN (nv a + nv b) else (bE, chkN [a, b])
def subF (a b : ByteArray) : ByteArray × Int := if chkN [a, b] = 0 then if nv a < nv b then (bE, 1) else (encS (nv a - nv b), 0) else (bE, chkN [a, b])
def mulF (a b : ByteArray) : ByteArray × Int := if chkN [a, b] = 0 then shortN (nv a * nv b) else (bE, chkN [a, b])
def divF (a b : ByteArray) : ByteArray × ByteArray × Int := if chkN [a, b] = 0 then if nv b = 0 then (bE, bE, 71) else (encS (nv a / nv b), encS (nv a % nv b), 0) else (bE, bE, chkN [a, b])
def gcdF (a b : ByteArray) : ByteArray × Int := if chkN [a, b] = 0 then (encS (Nat.gcd (nv a) (nv b)), 0) else (bE, chkN [a, b])
theorem chk2_zero {a b : ByteArray} (h : chkN [a, b] = 0) : isN a = true ∧ isN b = true ∧ a.size ≤ 256 ∧ b.size ≤ 256 := by
  unfold chkN at h
  split at h
  · rename_i h1
    split at h
    · rename_i h2
      simp only [List.all_cons, List.all_nil, Bool.and_true, Bool.and_eq_true, decide_eq_true_eq] at h1 h2
      exact ⟨h1.1, h1.2, h2.1, h2.2⟩
    · cases h
  · cases h
theorem chk2_of {a b : ByteArray} (h1 : isN a = true) (h2 : isN b = true) (h3 : a.size ≤ 256) (h4 : b.size ≤ 256) : chkN [a, b] = 0 := by
  simp [chkN, h1, h2, h3, h4]
theorem digs_of_size4 {a : ByteArray} (k : Nat) (h : a.size ≤ 4 * k) : (digs (nv a)).length ≤ k := by
  rw [digs_length_le, B32_pow]
  refine Nat.lt_of_lt_of_le (nv_lt a) ?_
  rw [two_256]
  exact Nat.pow_le_pow_right (by omega) (by omega)
theorem digs_of_size {a : ByteArray} (h : a.size ≤ 256) : (digs (nv a)).length ≤ 64 := digs_of_size4 64 h
theorem digs_len_mono {a b : Nat} (h : a ≤ b) : (digs a).length ≤ (digs b).length := (digs_length_le _ _).2 (Nat.lt_of_le_of_lt h (digs_lt b))
/-- one digit of a sum -/
theorem add_step (R A C : List Nat) (k c : Nat) (hR : R.length = k) (hinv : dv R + c * B32 ^ k = dv (A.take k) + dv (C.take k)) :
    dv (R ++ [(c + A.getD k 0 + C.getD k 0) % B32]) + (c + A.getD k 0 + C.getD k 0) / B32 * B32 ^ (k + 1) = dv (A.take (k + 1)) + dv (C.take (k + 1)) := by
  rw [dv_snoc, dv_take_getD, dv_take_getD, hR, Nat.pow_succ]
  generalize B32 ^ k = p at *
  generalize A.getD k 0 = x at *
  generalize C.getD k 0 = y at *
  have h := Nat.mod_add_div (c + x + y) B32
  generalize (c + x + y) % B32 = r at *
  generalize (c + x + y) / B32 = q at *
  have h1 : p * (r + B32 * q) = p * (c + x + y) := by rw [h]
  rw [Nat.mul_add, Nat.mul_add, Nat.mul_add] at h1
  have e1 : c * p = p * c := Nat.mul_comm _ _
  have e2 : q * (p * B32) = p * (B32 * q) := by rw [Nat.mul_comm B32 q, ← Nat.mul_assoc, ← Nat.mul_assoc, Nat.mul_comm q p]
  rw [e2]; omega

theorem dv_set : ∀ (L : List Nat) (p v : Nat) (h : p < L.length), dv (L.set p v) + B32 ^ p * L[p] = dv L + B32 ^ p * v
  | d :: L, 0, v, _ => by simp only [List.set_cons_zero, dv, List.getElem_cons_zero, Nat.pow_zero, Nat.one_mul]; omega
  | d :: L, p + 1, v, h => by
    have h' : p < L.length := by simpa using h
    have ih := dv_set L p v h'
    simp only [List.set_cons_succ, dv, List.getElem_cons_succ, Nat.pow_succ]
    have e : ∀ q : Nat, B32 ^ p * B32 * q = B32 * (B32 ^ p * q) := fun q => by rw [Nat.mul_comm (B32 ^ p), Nat.mul_assoc]
    rw [e, e]
    have h2 : B32 * (dv (L.set p v) + B32 ^ p * L[p]) = B32 * (dv L + B32 ^ p * v) := by rw [ih]
    rw [Nat.mul_add, Nat.mul_add] at h2
    omega
theorem small_set {L : List Nat} {p v : Nat} (h : small L) (hv : v < B32) : small (L.set p v) := by
  intro x hx
  rcases List.mem_or_eq_of_mem_set hx with hx | hx
  · exact h x hx
  · omega
/-- one digit of a product: the inner round -/
theorem mul_step (L Y : List Nat) (S i j x o : Nat) (hp : i + j < L.length) (hj : j < Y.length) (hI : dv L + o * B32 ^ (i + j) = S + x * B32 ^ i * dv (Y.take j)) :
    dv (L.set (i + j) ((o + (L[i + j] + x * Y[j])) % B32)) + (o + (L[i + j] + x * Y[j])) / B32 * B32 ^ (i + (j + 1)) = S + x * B32 ^ i * dv (Y.take (j + 1)) := by
  have h1 := dv_set L (i + j) ((o + (L[i + j] + x * Y[j])) % B32) hp
  have h2 := Nat.mod_add_div (o + (L[i + j] + x * Y[j])) B32
  rw [dv_take_succ Y j hj, show i + (j + 1) = i + j + 1 by omega, Nat.pow_succ, Nat.mul_add]
  have e2 : x * B32 ^ i * (B32 ^ j * Y[j]) = B32 ^ (i + j) * (x * Y[j]) := by
    rw [Nat.pow_add, Nat.mul_comm x, Nat.mul_assoc, Nat.mul_assoc, Nat.mul_left_comm x]
  rw [e2]
  generalize x * B32 ^ i * dv (Y.take j) = T at *
  generalize B32 ^ (i + j) = p at *
  generalize L[i + j] = l at *
  generalize x * Y[j] = t at *
  generalize (o + (l + t)) % B32 = r at *
  generalize (o + (l + t)) / B32 = q at *
  have h3 : p * (r + B32 * q) = p * (o + (l + t)) := by rw [h2]
  rw [Nat.mul_add, Nat.mul_add, Nat.mul_add] at h3
  have e3 : q * (p * B32) = p * (B32 * q) := by rw [Nat.mul_comm B32 q, ← Nat.mul_assoc, ← Nat.mul_assoc, Nat.mul_comm q p]
  have e4 : o * p = p * o := Nat.mul_comm _ _
  rw [e3]
  omega
/-- the end of an inner loop -/
theorem mul_end (L X Y : List Nat) (i o : Nat) (hX : small X) (hY : small Y) (hi : i < X.length) (hp : i + Y.length < L.length)
    (hI : dv L + o * B32 ^ (i + Y.length) = dv (X.take i) * dv Y + X[i] * B32 ^ i * dv Y) :
    dv (L.set (i + Y.length) (L[i + Y.length] + o)) = dv (X.take (i + 1)) * dv Y ∧ L[i + Y.length] + o < B32 := by
  have h1 := dv_set L (i + Y.length) (L[i + Y.length] + o) hp
  have e1 : dv (X.take (i + 1)) * dv Y = dv (X.take i) * dv Y + X[i] * B32 ^ i * dv Y := by
    rw [dv_take_succ X i hi, Nat.add_mul, Nat.mul_comm (B32 ^ i)]
  have e2 : dv L + o * B32 ^ (i + Y.length) = dv (X.take (i + 1)) * dv Y := by rw [hI, e1]
  refine ⟨by rw [Nat.mul_add] at h1; rw [← e2, Nat.mul_comm o]; omega, ?_⟩
  have h2 := dv_lt (X.take (i + 1)) (small_take hX _)
  rw [List.length_take, Nat.min_eq_left (by omega)] at h2
  have h3 := dv_lt Y hY
  have h4 : dv (X.take (i + 1)) * dv Y < B32 ^ (i + 1) * B32 ^ Y.length := by
    have hpos : 0 < B32 ^ (i + 1) := Nat.pow_pos (by unfold B32; omega)
    have a1 : dv (X.take (i + 1)) * dv Y ≤ dv (X.take (i + 1)) * B32 ^ Y.length := Nat.mul_le_mul_left _ (by omega)
    have a2 : dv (X.take (i + 1)) * B32 ^ Y.length < B32 ^ (i + 1) * B32 ^ Y.length := (Nat.mul_lt_mul_right (Nat.pow_pos (by unfold B32; omega))).2 h2
    omega
  rw [← e2] at h4
  have e5 : B32 ^ (i + 1) * B32 ^ Y.length = B32 ^ (i + Y.length) * B32 := by
    rw [← Nat.pow_add, show i + 1 + Y.length = i + Y.length + 1 by omega, Nat.pow_succ]
  rw [e5, dv_drop_take L (i + Y.length) (by omega), dv_drop_succ L (i + Y.length) hp] at h4
  generalize B32 ^ (i + Y.length) = p at *
  generalize L[i + Y.length] = l at *
  have h5 : p * (l + o) < p * B32 := by
    have e6 : o * p = p * o := Nat.mul_comm _ _
    rw [e6, Nat.mul_add] at h4
    rw [Nat.mul_add]
    omega
  exact Nat.lt_of_mul_lt_mul_left h5

end Go.Proofs.Ytmcejefeloljiaa.Nm

/-
  Plain numbers: what the functions hand back at numbers that are short.
-/
namespace Go.Proofs.Ytmcejefeloljiaa.Nm
set_option linter.unusedVariables false
set_option linter.unusedSimpArgs false

/-- short: at most 256 bytes -/
def Sm (n : Nat) : Prop := (enc n).length ≤ 256
theorem Sm.size {n : Nat} (h : Sm n) : (encS n).size ≤ 256 := by rw [size_encS]; exact h
theorem enc_len_mono {m n : Nat} (h : m ≤ n) : (enc m).length ≤ (enc n).length :=
  (enc_length_le m _).2 (Nat.lt_of_le_of_lt h ((enc_length_le n _).1 (Nat.le_refl _)))
theorem Sm.mono {m n : Nat} (h : Sm n) (hm : m ≤ n) : Sm m := Nat.le_trans (enc_len_mono hm) h
theorem enc_len_lt (n : Nat) : n < 256 ^ (enc n).length := (enc_length_le n _).1 (Nat.le_refl _)
theorem enc_len_mul (m n : Nat) : (enc (m * n)).length ≤ (enc m).length + (enc n).length := by
  rw [enc_length_le, Nat.pow_add]
  have h1 := enc_len_lt m
  have h2 := enc_len_lt n
  exact Nat.mul_lt_mul'' h1 h2
theorem enc_len_add (m n k : Nat) (hm : (enc m).length ≤ k) (hn : (enc n).length ≤ k) : (enc (m + n)).length ≤ k + 1 := by
  rw [enc_length_le] at *
  rw [Nat.pow_succ]
  omega
theorem natE {a : ByteArray} (h1 : isN a = true) (h2 : a.size ≤ 256) : a = encS (nv a) ∧ Sm (nv a) := by
  have h := encS_nv a h1
  exact ⟨h.symm, by rw [← h] at h2; rw [size_encS] at h2; exact h2⟩
theorem chkE2 {m n : Nat} (hm : Sm m) (hn : Sm n) : chkN [encS m, encS n] = 0 := chk2_of (isN_encS m) (isN_encS n) hm.size hn.size
theorem chkE1 {m : Nat} (hm : Sm m) : chkN [encS m] = 0 := by simp [chkN, isN_encS, hm.size]
theorem shortE {n : Nat} (h : Sm n) : shortN n = (encS n, 0) := if_pos h.size
theorem shortL {n : Nat} (h : ¬ Sm n) : shortN n = (bE, 2) := if_neg (fun hs => h (by rw [size_encS] at hs; exact hs))
theorem addE {m n : Nat} (hm : Sm m) (hn : Sm n) (h : Sm (m + n)) : addF (encS m) (encS n) = (encS (m + n), 0) := by
  rw [addF, if_pos (chkE2 hm hn), nv_encS, nv_encS, shortE h]
theorem addL {m n : Nat} (hm : Sm m) (hn : Sm n) (h : ¬ Sm (m + n)) : addF (encS m) (encS n) = (bE, 2) := by
  rw [addF, if_pos (chkE2 hm hn), nv_encS, nv_encS, shortL h]
theorem mulE {m n : Nat} (hm : Sm m) (hn : Sm n) (h : Sm (m * n)) : mulF (encS m) (encS n) = (encS (m * n), 0) := by
  rw [mulF, if_pos (chkE2 hm hn), nv_encS, nv_encS, shortE h]
theorem mulL {m n : Nat} (hm : Sm m) (hn : Sm n) (h : ¬ Sm (m * n)) : mulF (encS m) (encS n) = (bE, 2) := by
  rw [mulF, if_pos (chkE2 hm hn), nv_encS, nv_encS, shortL h]
theorem subE {m n : Nat} (hm : Sm m) (hn : Sm n) (h : n ≤ m) : subF (encS m) (encS n) = (encS (m - n), 0) := by
  rw [subF, if_pos (chkE2 hm hn), nv_encS, nv_encS, if_neg (by omega)]
theorem subL {m n : Nat} (hm : Sm m) (hn : Sm n) (h : m < n) : subF (encS m) (encS n) = (bE, 1) := by
  rw [subF, if_pos (chkE2 hm hn), nv_encS, nv_encS, if_pos h]
theorem divE {m n : Nat} (hm : Sm m) (hn : Sm n) (h : 0 < n) : divF (encS m) (encS n) = (encS (m / n), encS (m % n), 0) := by
  rw [divF, if_pos (chkE2 hm hn), nv_encS, nv_encS, if_neg (by omega)]
theorem divZ {m : Nat} (hm : Sm m) : divF (encS m) (encS 0) = (bE, bE, 71) := by
  rw [divF, if_pos (chkE2 hm (show Sm 0 by show (enc 0).length ≤ 256; rw [enc_zero]; decide)), nv_encS, nv_encS, if_pos rfl]
theorem cmpE {m n : Nat} (hm : Sm m) (hn : Sm n) : cmpF (encS m) (encS n) = (cmpN m n, 0) := by
  rw [cmpF, if_pos (chkE2 hm hn), nv_encS, nv_encS]
theorem gcdE {m n : Nat} (hm : Sm m) (hn : Sm n) : gcdF (encS m) (encS n) = (encS (Nat.gcd m n), 0) := by
  rw [gcdF, if_pos (chkE2 hm hn), nv_encS, nv_encS]
theorem bE_encS : bE = encS 0 := rfl
theorem encS_max {n : Nat} (h : Sm n) : (encS n).size ≤ Go.maxLen := Nat.le_trans h.size (by unfold Go.maxLen; omega)
theorem chk_two {a b : ByteArray} (h : chkN [a, b] ≠ 0) : chkN [a] ≠ 0 ∨ (chkN [a] = 0 ∧ chkN [b] ≠ 0) := by
  by_cases h1 : chkN [a] = 0
  · refine Or.inr ⟨h1, fun h2 => h ?_⟩
    simp only [chkN, List.all_cons, List.all_nil, Bool.and_true] at h1 h2
    split at h1
    · split at h1
      · split at h2
        · split at h2
          · rename_i e1 e2 e3 e4
            exact chk2_of e1 e3 (by simpa using e2) (by simpa using e4)
          · cases h2
        · cases h2
      · cases h1
    · cases h1
  · exact Or.inl h1
theorem chk_one {a : ByteArray} (h : chkN [a] = 0) : isN a = true ∧ a.size ≤ 256 := by
  simp only [chkN, List.all_cons, List.all_nil, Bool.and_true] at h
  split at h
  · split at h
    · rename_i e1 e2
      exact ⟨e1, by simpa using e2⟩
    · cases h
  · cases h

end Go.Proofs.Ytmcejefeloljiaa.Nm

/-
  Plain ratios: what the functions of package ratios hand back, said on texts.
-/
namespace Go.Proofs.Ytmcejefeloljiaa.Nm

/-- a ratio as the program holds it -/
structure Rt where
  neg : Bool
  n : ByteArray
  d : ByteArray
/-- a number with a sign -/
structure Sg where
  neg : Bool
  n : ByteArray
def isE (s : ByteArray) : Bool := decide (s.size = 0)
/-- 'must': the number, unless there was an error -/
def mustO (p : ByteArray × Int) : Option ByteArray := if p.2 = 0 then some p.1 else none
def plusO (a b : ByteArray) : Option ByteArray := mustO (addF a b)
def timesO (a b : ByteArray) : Option ByteArray := mustO (mulF a b)
def lessB (a b : ByteArray) : Bool := decide ((cmpF a b).1 < 0)
def saddO (a b : Sg) : Option Sg :=
  if a.neg = b.neg then (plusO a.n b.n).map fun s => ⟨a.neg, s⟩
  else if lessB a.n b.n then (mustO (subF b.n a.n)).map fun s => ⟨b.neg, s⟩
  else (mustO (subF a.n b.n)).map fun s => ⟨a.neg, s⟩
def overR (a : Sg) (d g : ByteArray) : Rt := ⟨a.neg && !isE (divF a.n g).1, (divF a.n g).1, (divF d g).1⟩
def overO (a : Sg) (d : ByteArray) : Option Rt := (mustO (gcdF a.n d)).map (overR a d)
def badR (a : Rt) : Bool := decide (chkN [a.n] ≠ 0) || decide (chkN [a.d] ≠ 0) || isE a.d || (a.neg && isE a.n)
def checkR (a : Rt) : Int := if badR a then 70 else if (gcdF a.n a.d).1 = ⟨#[1]⟩ then 0 else 70

end Go.Proofs.Ytmcejefeloljiaa.Nm

/-
  Small laws for walks: a slice of numbers that the call itself made.
-/
namespace Go.Proofs.Ytmcejefeloljiaa
set_option linter.unusedVariables false
set_option linter.unusedSimpArgs false
open Go.RowKit

/-- The slice v, of numbers of kind k, owns the cells xs (from block B on). -/
def OwnN (w : World) (B : Nat) (E : TypeId) (k : IntKind) (v : Value) (xs : List Nat) : Prop :=
  w.ownsRow B E 1 v xs.length (xs.map fun x => .int k ((x : Nat) : Int))

section
variable {w w' : World} {B : Nat} {E : TypeId} {k : IntKind} {v : Value} {xs : List Nat}
theorem OwnN.shape (h : OwnN w B E k v xs) : ∃ oa cap, v = .slice oa xs.length cap ∧ (oa = none → xs = []) ∧ (∀ a, oa = some a → a = ⟨a.block, 0, none⟩ ∧ B ≤ a.block ∧ a.block < w.heap.size) ∧ xs.length ≤ cap ∧ cap ≤ maxLen := by
  rcases h.2 with ⟨rfl, hn⟩ | ⟨g, cap, cur, rfl, hb, hg, hle, hcm, _⟩
  · exact ⟨none, 0, by rw [hn], fun _ => List.eq_nil_of_length_eq_zero hn, (fun _ h => by cases h), by omega, by simp [maxLen]⟩
  · refine ⟨_, cap, rfl, (fun h => by cases h), (fun a h => ?_), hle, hcm⟩
    cases h
    exact ⟨rfl, hb, (Array.getElem?_eq_some_iff.1 hg).1⟩
/-- the slice's form, no more -/
theorem OwnN.shp (h : OwnN w B E k v xs) : ∃ oa cap, v = .slice oa xs.length cap ∧ xs.length ≤ cap ∧ cap ≤ 9223372036854775807 := by
  obtain ⟨oa, cap, hv, _, _, h1, h2⟩ := h.shape
  exact ⟨oa, cap, hv, h1, by simpa [maxLen] using h2⟩
theorem OwnN.cell {g n cap : Nat} (h : OwnN w B E k (.slice (some ⟨g, 0, none⟩) n cap) xs) (j : Nat) (hj : j < xs.length) :
    w.cell? ⟨g, j, none⟩ = some (.int k ((xs[j] : Nat) : Int)) := by
  have hn : n = xs.length := by
    obtain ⟨oa, c, hv, _⟩ := h.shape
    cases hv; rfl
  subst hn
  rw [World.ownsRow.cellAt h j (by omega)]
  simp [hj]
theorem OwnN.frozen {g n cap : Nat} (h : OwnN w B E k (.slice (some ⟨g, 0, none⟩) n cap) xs) (j : Nat) : w.frozen? ⟨g, j, none⟩ = false := by
  have hn : n = xs.length := by
    obtain ⟨oa, c, hv, _⟩ := h.shape
    cases hv; rfl
  subst hn
  exact World.ownsRow.frozenAt h j
theorem OwnN.stored {g n cap : Nat} (h : OwnN w B E k (.slice (some ⟨g, 0, none⟩) n cap) xs) (j x : Nat) :
    OwnN (w.setCell ⟨g, j, none⟩ (.int k (x : Int))) B E k (.slice (some ⟨g, 0, none⟩) n cap) (xs.set j x) ∧ w.grownBy (w.setCell ⟨g, j, none⟩ (.int k (x : Int))) (some g) := by
  have hn : n = xs.length := by
    obtain ⟨oa, c, hv, _⟩ := h.shape
    cases hv; rfl
  subst hn
  have := World.ownsRow.stored h j (.int k (x : Int))
  unfold OwnN
  rw [List.length_set, List.map_set]
  exact this
theorem OwnN.lt (h : OwnN w B E k v xs) : ∀ g, v.ownBlock = some g → B ≤ g ∧ g < w.heap.size := World.ownsRow.lt h
theorem OwnN.kept {row : Option Nat} (h : OwnN w B E k v xs) (hg : w.grownBy w' row) (hne : v.ownBlock = none ∨ v.ownBlock ≠ row) : OwnN w' B E k v xs :=
  World.ownsRow.kept h hg hne
theorem OwnN.alloc (h : OwnN w B E k v xs) (o : Obj) : OwnN (w.alloc o) B E k v xs := World.ownsRow.alloc h o
theorem OwnN.drew (h : OwnN w B E k v xs) : OwnN w.drew B E k v xs := h
theorem OwnN.drewN (h : OwnN w B E k v xs) (n : Nat) : OwnN (w.drewN n) B E k v xs := h
theorem OwnN.below (h : OwnN w B E k v xs) (hb : Below w.heap.size w w') : OwnN w' B E k v xs :=
  World.ownsRow.kept h (row := none) ⟨hb.os, hb.tape, hb.output, hb.size, fun i hi _ => hb.block i hi⟩ (by cases v.ownBlock <;> simp)
theorem OwnN.nil (w : World) (B : Nat) (E : TypeId) (k : IntKind) : OwnN w B E k (.slice none 0 0) [] := World.ownsRow_nil w B E 1
theorem OwnN.mono {B' : Nat} (h : OwnN w B E k v xs) (hB : B' ≤ B) : OwnN w B' E k v xs := by
  refine ⟨h.1, ?_⟩
  rcases h.2 with h2 | ⟨g, cap, cur, a, b, c⟩
  · exact .inl h2
  · exact .inr ⟨g, cap, cur, a, Nat.le_trans hB b, c⟩
theorem OwnN.made {n : Nat} {v : Value} (h : w.ownsRow B E 1 v n (madeCells #[.int k 0] n).toList) : OwnN w B E k v (List.replicate n 0) := by
  unfold OwnN
  rw [toList_madeCells_one] at h
  simpa using h
/-- cut at a shorter length -/
theorem OwnN.cut {oa : Option Addr} {n cap : Nat} (h : OwnN w B E k (.slice oa n cap) xs) (m : Nat) (hm : m ≤ xs.length) (hs : oa = none → m = 0) : OwnN w B E k (.slice oa m cap) (xs.take m) := by
  rcases h.2 with ⟨hv, hn⟩ | ⟨g, c, cur, hv, hb, hg, hle, hcm, hsz, htk⟩
  · cases hv
    have : m = 0 := hs rfl
    subst this
    simpa using OwnN.nil w B E k
  · cases hv
    have hl : (xs.take m).length = m := by rw [List.length_take]; omega
    refine ⟨by simp, .inr ⟨g, cap, cur, by rw [hl], hb, hg, by omega, hcm, hsz, ?_⟩⟩
    rw [hl, Nat.mul_one, List.map_take, ← htk, Nat.mul_one, List.take_take, Nat.min_eq_left hm]
end

theorem below_of_grown {B : Nat} {a w w' : World} {row : Option Nat} (h : Below B a w) (hg : w.grownBy w' row) (hB : B ≤ w.heap.size) (hr : ∀ k, row = some k → B ≤ k) : Below B a w' := h.grown hg hB hr
theorem sdata (s : ByteArray) : s.toList = s.data.toList := ByteArray.toList_eq s
theorem sdata_length (s : ByteArray) : s.data.toList.length = s.size := by rw [Array.length_toList]; rfl
theorem isEmpty_false {s : ByteArray} (h : 0 < s.size) : s.toList.isEmpty = false := by
  rw [sdata, List.isEmpty_eq_false_iff, ← List.length_pos_iff, sdata_length]; exact h
theorem isEmpty_true {s : ByteArray} (h : ¬ 0 < s.size) : s.toList.isEmpty = true := by
  rw [sdata, List.isEmpty_iff, ← List.length_eq_zero_iff, sdata_length]; omega
theorem ret_bool {a b : Bool} (h : a = b) : Ending.returned (.bool a) = .returned (.bool b) := by rw [h]
theorem ret_int {k : IntKind} {a b : Int} (h : a = b) : Ending.returned (.int k a) = .returned (.int k b) := by rw [h]
theorem ret_string {a b : ByteArray} (h : a = b) : Ending.returned (.string a) = .returned (.string b) := by rw [h]

theorem ownBlock_slice (oa : Option Addr) (n c : Nat) : (Value.slice oa n c).ownBlock = oa.map Addr.block := by cases oa <;> rfl
theorem wrapU (n : Nat) (h : n < 18446744073709551616) : IntKind.u64.wrap (n : Int) = (n : Int) := by rw [IntKind.wrap_u64]; omega
theorem orU (a b : Nat) (ha : a < 18446744073709551616) (hb : b < 18446744073709551616) : bits BinOp.or IntKind.u64 (a : Int) (b : Int) = ((a ||| b : Nat) : Int) := bits_or_u64_nat a b ha hb
theorem andU (a b : Nat) (ha : a < 18446744073709551616) (hb : b < 18446744073709551616) : bits BinOp.and IntKind.u64 (a : Int) (b : Int) = ((a &&& b : Nat) : Int) := bits_and_u64_nat a b ha hb
theorem drew_below {B : Nat} {w w' : World} (h : Below B w w') : Below B w w'.drew := h.drew

/-- 'l = append(l, x)', l a slice of numbers of the call's own: the one element lies in a block just made. -/
theorem append1 {P : Program} (W : World) {ops : Array Oper} {rest : List Oper} {o : Oper} {a : Act} {Q : Exit → Act → World → Prop} (hgd : o.guard = none) (s x : Operand) (t : TypeId)
    (ho : o.op = .call { callee := .builtin .append, args := #[s, x], argTypes := #[t, t] })
    (B : Nat) (E : TypeId) (k : IntKind) (bytes : Nat) (hinfo : (P.info? E).map (fun i => (i.zero, i.size, i.bytes)) = some (some (.int k 0), 1, bytes)) (ht : P.underlying t = some (.slice E))
    (v : Value) (xs : List Nat) (hown : OwnN W B E k v xs) (hs : a.eval s = v) (E' : TypeId) (z : Int) (n : Nat) (hz : z = (n : Int)) (hx : a.eval x = .slice (some ⟨W.heap.size, 0, none⟩) 1 1)
    (hlen : xs.length + 1 ≤ 4294967296) (hb : bytes ≤ 8) (hB : B ≤ W.heap.size)
    (h : ∀ v' w', OwnN w' B E k v' (xs ++ [n]) → (W.alloc (.cells #[.int k z] E')).grownBy w' v.ownBlock → wpList P ops Q rest (a.put o.dst v') w') :
    wpList P ops Q (o :: rest) a (W.alloc (.cells #[.int k z] E')) := by
  obtain ⟨i, hi, h0, h1, h2⟩ := info_parts hinfo
  subst hz
  refine wpList_append_own _ hgd s x t ho B E i (.int k 0) 1 bytes ht hi h0 h1 h2 rfl (by decide) v xs.length _ hs (hown.alloc _) ⟨W.heap.size, 0, none⟩ 1 1 [.int k (n : Int)] hx rfl (cell_one_new _ _ _) ?_ ?_ ?_ ?_ ?_
  · intro u hu; simp at hu; subst hu; rfl
  · unfold maxLen; omega
  · have : (xs.length + 1) * bytes ≤ 4294967296 * 8 := Nat.mul_le_mul hlen hb
    omega
  · simp; omega
  · intro v' w' h3 h4 _
    refine h v' w' ?_ h4
    unfold OwnN
    simpa using h3
theorem grown_below {B : Nat} {a W w' : World} {E' : TypeId} {u v : Value} {xs : List Nat} {E : TypeId} {k : IntKind} (h : Below B a W) (hown : OwnN W B E k v xs) (hg : (W.alloc (.cells #[u] E')).grownBy w' v.ownBlock) (hB : B ≤ W.heap.size) : Below B a w' :=
  (h.alloc hB _).grown hg (by simp; omega) fun i hi => (hown.lt i hi).1
/-- 'string(b)' of bytes of the call's own. -/
theorem OwnN.str {P : Program} {w : World} {B : Nat} {E : TypeId} {v : Value} {bs : List UInt8} (h : OwnN w B E .u8 v (bs.map UInt8.toNat)) (src dst : TypeId) (hs : P.underlying src = some (.slice E)) (he : P.underlying E = some (.int .u8)) (hd : P.underlying dst = some .string) :
    (convert src dst v).run P w = .ok (.string ⟨bs.toArray⟩) w := by
  obtain ⟨oa, cap, rfl, hnone, hsome, _⟩ := h.shape
  cases oa with
  | none =>
    have hb : bs = [] := by simpa using hnone rfl
    subst hb
    exact run_convert_bytes_nil w src E hs he _ _ dst hd
  | some a =>
    obtain ⟨ha, _, _⟩ := hsome a rfl
    obtain ⟨g, o, sb⟩ := a
    cases ha
    rw [run_convert_bytes_arg (P := P) w src E hs he g 0 (bs.map UInt8.toNat).length cap (bs.map fun b => ((b.toNat : Nat) : Int)) (by simp) (fun i hi => by
      have := OwnN.cell h i hi
      rw [Nat.zero_add, this]
      simp at hi
      simp [hi]) dst hd]
    simp [strOfNums, Function.comp_def]
theorem OwnN.kept2 {w' W : World} {B : Nat} {E : TypeId} {k : IntKind} {v u : Value} {xs : List Nat} {E' : TypeId} {z : Value} (h : OwnN W B E k v xs) (hg : (W.alloc (.cells #[z] E')).grownBy w' u.ownBlock) (hne : v.ownBlock = none ∨ v.ownBlock ≠ u.ownBlock) : OwnN w' B E k v xs :=
  (h.alloc _).kept hg hne

theorem grownBy_trans {w w1 w2 : World} {row : Option Nat} (h1 : w.grownBy w1 row) (h2 : w1.grownBy w2 row) : w.grownBy w2 row :=
  ⟨h2.os.trans h1.os, h2.tape.trans h1.tape, h2.output.trans h1.output, Nat.le_trans h1.size h2.size, fun k hk hne => (h2.block k (Nat.lt_of_lt_of_le hk h1.size) hne).trans (h1.block k hk hne)⟩
theorem grownBy_drew {w w1 : World} {row : Option Nat} (h : w.grownBy w1 row) : w.grownBy w1.drew row := ⟨h.os, h.tape, h.output, h.size, h.block⟩
theorem grownBy_set {w w1 : World} {g : Nat} (h : w.grownBy w1 (some g)) (j : Nat) (u : Value) : w.grownBy (w1.setCell ⟨g, j, none⟩ u) (some g) :=
  grownBy_trans h ⟨rfl, rfl, rfl, by simp, fun k _ hk => Below.heap_setCell _ _ _ _ (fun e => hk (by rw [e]))⟩
theorem grownBy_alloc {w w1 : World} {row : Option Nat} (h : w.grownBy w1 row) (o : Obj) : w.grownBy (w1.alloc o) row :=
  grownBy_trans h (World.grownBy_alloc _ _ _)
theorem below_grown {B : Nat} {w w' : World} {row : Option Nat} (h : w.grownBy w' row) (hB : B ≤ w.heap.size) (hr : ∀ k, row = some k → B ≤ k) : Below B w w' :=
  (Below.refl B w).grown h hB hr
/-- a slice of numbers that is only read, in a later world that may have written one other block -/
theorem OwnN.cellIn {w w' : World} {B : Nat} {E : TypeId} {k : IntKind} {g n cap : Nat} {xs : List Nat} {row : Option Nat} (h : OwnN w B E k (.slice (some ⟨g, 0, none⟩) n cap) xs) (hg : w.grownBy w' row) (hne : some g ≠ row) (j : Nat) (hj : j < xs.length) :
    w'.cell? ⟨g, j, none⟩ = some (.int k ((xs[j] : Nat) : Int)) :=
  (h.kept hg (Or.inr hne)).cell j hj
theorem OwnN.at {w : World} {B : Nat} {E : TypeId} {k : IntKind} {oa : Option Addr} {n cap : Nat} {xs : List Nat} (h : OwnN w B E k (.slice oa n cap) xs) (hx : 0 < xs.length) : ∃ g, oa = some ⟨g, 0, none⟩ ∧ B ≤ g ∧ g < w.heap.size := by
  rcases h.2 with ⟨hv, hn⟩ | ⟨g, c, cur, hv, hb, hg, hle, hcm, hsz, htk⟩
  · omega
  · cases hv
    exact ⟨g, rfl, hb, (Array.getElem?_eq_some_iff.1 hg).1⟩
theorem OwnN.len {w : World} {B : Nat} {E : TypeId} {k : IntKind} {oa : Option Addr} {n cap : Nat} {xs : List Nat} (h : OwnN w B E k (.slice oa n cap) xs) : n = xs.length := by
  obtain ⟨_, _, hv, _⟩ := h.shape
  cases hv; rfl

theorem or_low (x c : Nat) (hc : c ≤ 1) : 2 * x ||| c = 2 * x + c := by
  have h := Nat.shiftLeft_add_eq_or_of_lt (show c < 2 ^ 1 by omega) x
  rw [Nat.shiftLeft_eq] at h
  rw [show 2 * x = x * 2 ^ 1 by omega]; exact h.symm
theorem mask32 (y : Nat) (hy : y < 18446744073709551616) : bits BinOp.and IntKind.u64 (y : Int) 4294967295 = ((y % 4294967296 : Nat) : Int) := by
  have h := andU y 4294967295 hy (by omega)
  have e : y &&& 4294967295 = y % 4294967296 := Nat.and_two_pow_sub_one_eq_mod y 32
  rw [e] at h; exact h

theorem and_bit (x p : Nat) (hx : x < 18446744073709551616) : bits BinOp.and IntKind.u64 ((x : Int) / 2 ^ p) 1 = ((x / 2 ^ p % 2 : Nat) : Int) := by
  have h := and_one_u64 ((x : Int) / 2 ^ p) (Int.ediv_nonneg (by omega) (by
    have : (0 : Int) < 2 ^ p := Int.pow_pos (by omega)
    omega)) (by
    have e : ((x : Int) / 2 ^ p) = ((x / 2 ^ p : Nat) : Int) := by simp
    have := Nat.div_le_self x (2 ^ p)
    rw [e]; omega)
  rw [h]; simp

end Go.Proofs.Ytmcejefeloljiaa

/-
  The walks of package naturals.
-/
namespace Go.Proofs.Ytmcejefeloljiaa
set_option linter.unusedVariables false
set_option linter.unusedSimpArgs false
open Go.RowKit Nm

theorem info_u64 : (Try.prog.info? 159).map (fun i => (i.zero, i.size, i.bytes)) = some (some (.int .u64 0), 1, 8) := by kernel_rfl
abbrev OwnU (w : World) (B : Nat) (v : Value) (xs : List Nat) : Prop := OwnN w B 159 .u64 v xs

theorem isN_pos {s : ByteArray} (h : 0 < s.size) : isN s = (((s[0].toNat : Nat) : Int) != 0) := by
  obtain ⟨⟨l⟩⟩ := s
  cases l with
  | nil => simp [ByteArray.size] at h
  | cons b l =>
    show (b != 0) = ((b.toNat : Int) != 0)
    rw [Bool.eq_iff_iff, bne_iff_ne, bne_iff_ne]
    constructor
    · intro h h2; apply h; apply UInt8.toNat_inj.1; simpa using h2
    · intro h h2; subst h2; simp at h
theorem isN_nil {s : ByteArray} (h : ¬ 0 < s.size) : isN s = true := by
  obtain ⟨⟨l⟩⟩ := s
  cases l with
  | nil => rfl
  | cons b l => simp [ByteArray.size] at h

set_option maxHeartbeats 400000 in
theorem natural_any (s : ByteArray) (w : World) :
    Calls Try.prog 109 #[.string s] w fun e w' => e = .returned (.bool (isN s)) ∧ w = w' := by
  by_cases h0 : 0 < s.size
  · have h1 : s.toList.isEmpty = false := isEmpty_false h0
    go_enter Try.func109, Try.ntmps109
    go_wp2
    go_ret
    exact ⟨ret_bool (isN_pos h0).symm, rfl⟩
  · have h1 : s.toList.isEmpty = true := isEmpty_true h0
    go_enter Try.func109, Try.ntmps109
    go_wp2
    go_ret
    exact ⟨ret_bool (isN_nil h0).symm, rfl⟩

theorem words_bits (x c p : Nat) (hx : x < B32) (hc : c < 256) (hp : p % 8 = 0) :
    bits BinOp.or IntKind.u64 (x : Int) (IntKind.u64.wrap (IntKind.u64.wrap (c : Int) * 2 ^ (p % 32))) = ((x ||| (c <<< (p % 32)) : Nat) : Int) := by
  have h1 : p % 32 ≤ 24 := by omega
  have h2 : c <<< (p % 32) < 2 ^ 32 := by
    rw [Nat.shiftLeft_eq]
    have : 2 ^ (p % 32) ≤ 2 ^ 24 := Nat.pow_le_pow_right (by omega) h1
    have := Nat.mul_le_mul (show c ≤ 255 by omega) this
    simp at this ⊢; omega
  rw [wrapU c (by omega)]
  have e : (c : Int) * 2 ^ (p % 32) = ((c <<< (p % 32) : Nat) : Int) := by rw [Nat.shiftLeft_eq]; simp
  rw [e, wrapU _ (by simp at h2; omega), orU _ _ (by unfold B32 at hx; omega) (by simp at h2; omega)]

theorem words_step {w wr : World} {s : ByteArray} {q k x : Nat} {B : Nat} (hk : k < s.size)
    (hx : x = wnum s k / B32 ^ ((s.size - 1 - k) / 4) % B32)
    (hown : OwnU wr B (.slice (some ⟨w.heap.size, 0, none⟩) q q) (dgl q (wnum s k))) (hbl : Below w.heap.size w wr) (n : Int)
    (hn : n = ((x ||| (s[k].toNat <<< (8 * ((s.size - 1 - k) % 4))) : Nat) : Int)) :
    OwnU (wr.setCell ⟨w.heap.size, (s.size - 1 - k) / 4, none⟩ (.int .u64 n)).drew B (.slice (some ⟨w.heap.size, 0, none⟩) q q) (dgl q (wnum s (k + 1))) ∧
    Below w.heap.size w (wr.setCell ⟨w.heap.size, (s.size - 1 - k) / 4, none⟩ (.int .u64 n)).drew := by
  obtain ⟨h1, h2⟩ := OwnN.stored hown ((s.size - 1 - k) / 4) (x ||| (s[k].toNat <<< (8 * ((s.size - 1 - k) % 4))))
  subst hn
  refine ⟨?_, (hbl.setCell (p := ⟨w.heap.size, (s.size - 1 - k) / 4, none⟩) (Nat.le_refl _) _).drew⟩
  have e : dgl q (wnum s (k + 1)) = (dgl q (wnum s k)).set ((s.size - 1 - k) / 4) (x ||| (s[k].toNat <<< (8 * ((s.size - 1 - k) % 4)))) := by
    have h := dgl_or q (wnum s k) s[k].toNat (8 * (s.size - 1 - k)) (by
      have hb := s[k].toNat_lt
      have : 2 ^ 8 ≤ 2 ^ (32 - 8 * (s.size - 1 - k) % 32) := Nat.pow_le_pow_right (by omega) (by omega)
      omega)
    rw [show 8 * (s.size - 1 - k) / 32 = (s.size - 1 - k) / 4 by omega, show 8 * (s.size - 1 - k) % 32 = 8 * ((s.size - 1 - k) % 4) by omega] at h
    rw [wnum_succ s k hk, hx, h]
  rw [e]
  exact h1

set_option maxHeartbeats 400000 in
theorem words_any (s : ByteArray) (w : World) (hs : s.size ≤ 4096) :
    Calls Try.prog 107 #[.string s] w fun e w' => ∃ v, e = .returned v ∧ OwnU w' w.heap.size v (dgl ((s.size + 3) / 4) (nv s)) ∧ Below w.heap.size w w' := by
  obtain ⟨i0, hi, hz0, hz1, hz2⟩ := info_parts info_u64
  go_enter Try.func107, Try.ntmps107
  go_wp2_with (at_make; refine wpList_make_full _ rfl _ _ 153 rfl w.heap.size 159 i0 (.int .u64 0) 1 Try.underlying153 hi hz0 hz1 .i64 .i64 _ _ ((s.size + 3) / 4) rfl rfl ?b1 ?b2 ?b3 ?b4 ?b5 ?_)
  case b1 => omega
  case b2 => omega
  case b3 => rw [hz2]; omega
  case b4 => unfold maxLen; omega
  case b5 => exact Nat.le_refl _
  intro w1 hown hgrow
  have hown1 := OwnN.made hown
  have hb1 := (Below.refl w.heap.size w).grown hgrow (Nat.le_refl _) (by simp)
  clear hown hgrow hi hz0 hz1 hz2
  generalize hq : (s.size + 3) / 4 = q
  have Hq := Lib.hid hq; clear hq
  go_wp2_with fail
  go_loopw [14] (fun i wr => ∃ k : Nat, k ≤ s.size ∧ i = .int .i64 k ∧ OwnU wr w.heap.size (.slice (some ⟨w.heap.size, 0, none⟩) q q) (dgl q (wnum s k)) ∧ Below w.heap.size w wr) (fun i _ => s.size - (intOf i).toNat)
  case atStart => exact ⟨0, Nat.zero_le _, rfl, by rw [wnum_zero, dgl_zero, ← Hq.out]; exact hown1, hb1⟩
  case round =>
    obtain ⟨k, hk, rfl, hown, hbl⟩ := hrel
    clear hown1 hb1
    by_cases hlt : k < s.size
    · have hj : (s.size - 1 - k) / 4 < q := by rw [← Hq.out]; omega
      have hc := OwnN.cell hown ((s.size - 1 - k) / 4) (by rw [dgl_length]; exact hj)
      have hf := OwnN.frozen hown ((s.size - 1 - k) / 4)
      rw [dgl_get q _ _ hj] at hc
      generalize hx : wnum s k / B32 ^ ((s.size - 1 - k) / 4) % B32 = x at hc
      have Hx := Lib.hid hx; clear hx
      go_wp2_with fail
      go_region
      go_wp2_with fail
      go_roundw
      case rel =>
        refine ⟨k + 1, by omega, by go_num, words_step hlt Hx.out.symm hown hbl _ ?_⟩
        have h := words_bits x s[k].toNat (8 * ((s.size - 1 - k) % 4)) (by rw [← Hx.out]; exact Nat.mod_lt _ (by unfold B32; omega)) s[k].toNat_lt (by omega)
        rw [show 8 * ((s.size - 1 - k) % 4) % 32 = 8 * ((s.size - 1 - k) % 4) by omega] at h
        exact h
      case measure => simp [intOf]; omega
    · obtain rfl : k = s.size := by omega
      go_wp2_with fail
      go_ret
      exact ⟨_, rfl, by rw [Hq.out, ← wnum_all]; exact hown, hbl⟩

/-- 'words' of a natural number: its digits. -/
theorem words_nat (s : ByteArray) (w : World) (hs : s.size ≤ 4096) (hn : isN s = true) :
    Calls Try.prog 107 #[.string s] w fun e w' => ∃ v, e = .returned v ∧ OwnU w' w.heap.size v (digs (nv s)) ∧ Below w.heap.size w w' := by
  rw [← words_digs s hn]; exact words_any s w hs


set_option maxHeartbeats 400000 in
theorem check_any (b cap : Nat) (ss : List ByteArray) (w : World) (hl : ss.length ≤ 4096) (hc : ∀ j (h : j < ss.length), w.cell? ⟨b, j, none⟩ = some (.string ss[j])) (hz : ∀ s ∈ ss, s.size ≤ maxLen) :
    Calls Try.prog 105 #[.slice (some ⟨b, 0, none⟩) ss.length cap] w fun e w' => e = .returned (.int .i64 (chkN ss)) ∧ w = w' := by
  unfold maxLen at hz
  have HC := Lib.hid hc; clear hc
  have HZ := Lib.hid hz; clear hz
  go_enter Try.func105, Try.ntmps105
  go_wp2_with fail
  go_loop [9] (fun i => ∃ k : Nat, k ≤ ss.length ∧ i = .int .i64 k ∧ ∀ j (h : j < ss.length), j < k → isN ss[j] = true) (fun i => ss.length - (intOf i).toNat)
  case atStart => exact ⟨0, Nat.zero_le _, rfl, fun j _ h => by omega⟩
  case round =>
    obtain ⟨k, hk, rfl, hall⟩ := hrel
    have HA := Lib.hid hall; clear hall
    by_cases hlt : k < ss.length
    · have hc := HC.out k hlt
      generalize hs : ss[k] = s at hc
      have Hs := Lib.hid hs; clear hs
      by_cases hn : isN s = true
      · have HN := Lib.hid hn; clear hn
        go_wp2_with fail
        refine (natural_any _ _).mono ?_
        rintro e w' ⟨rfl, rfl⟩
        rw [HN.out]
        go_wp2_with fail
        go_round
        case rel =>
          refine ⟨k + 1, by omega, by go_num, fun j h hj => ?_⟩
          by_cases hjk : j = k
          · subst hjk; rw [Hs.out]; exact HN.out
          · exact HA.out j h (by omega)
        case measure => simp [intOf]; omega
      · have HN := Lib.hid hn; clear hn
        go_wp2_with fail
        refine (natural_any _ _).mono ?_
        rintro e w' ⟨rfl, rfl⟩
        rw [Bool.eq_false_iff.2 HN.out]
        go_wp2_with fail
        go_ret
        refine ⟨ret_int ?_, rfl⟩
        rw [chkN, if_neg]
        intro h
        exact HN.out (by rw [← Hs.out]; exact List.all_eq_true.1 h _ (List.getElem_mem _))
    · obtain rfl : k = ss.length := by omega
      have hall : ss.all isN = true := List.all_eq_true.2 fun x hx => by
        obtain ⟨j, h, rfl⟩ := List.mem_iff_getElem.1 hx
        exact HA.out j h h
      have HL := Lib.hid hall; clear hall
      go_wp2_with fail
      go_loop [19] (fun i => ∃ k : Nat, k ≤ ss.length ∧ i = .int .i64 k ∧ ∀ j (h : j < ss.length), j < k → ss[j].size ≤ 256) (fun i => ss.length - (intOf i).toNat)
      case atStart => exact ⟨0, Nat.zero_le _, rfl, fun j _ h => by omega⟩
      case round =>
        obtain ⟨k, hk, rfl, hall⟩ := hrel
        have HB := Lib.hid hall; clear hall
        by_cases hlt2 : k < ss.length
        · have hc := HC.out k hlt2
          have hz := HZ.out ss[k] (List.getElem_mem _)
          generalize hs : ss[k] = s at hc hz
          have Hs := Lib.hid hs; clear hs
          by_cases hn : 256 < s.size
          · go_wp2_with fail
            go_ret
            refine ⟨ret_int ?_, rfl⟩
            rw [chkN, if_pos HL.out, if_neg]
            intro h
            have := List.all_eq_true.1 h ss[k] (List.getElem_mem _)
            rw [Hs.out] at this
            simp at this; omega
          · go_wp2_with fail
            go_round
            case rel =>
              refine ⟨k + 1, by omega, by go_num, fun j h hj => ?_⟩
              by_cases hjk : j = k
              · subst hjk; rw [Hs.out]; omega
              · exact HB.out j h (by omega)
            case measure => simp [intOf]; omega
        · obtain rfl : k = ss.length := by omega
          go_wp2_with fail
          go_ret
          refine ⟨ret_int ?_, rfl⟩
          rw [chkN, if_pos HL.out, if_pos]
          exact List.all_eq_true.2 fun x hx => by
            obtain ⟨j, h, rfl⟩ := List.mem_iff_getElem.1 hx
            simpa using HB.out j h h

set_option maxHeartbeats 400000 in
theorem trim_at (B : Nat) (oa : Option Addr) (cap : Nat) (xs : List Nat) (w : World) (hown : OwnU w B (.slice oa xs.length cap) xs) (hs : small xs) (hl : xs.length ≤ 1048576) :
    Calls Try.prog 153 #[.slice oa xs.length cap] w fun e w' => e = .returned (.slice oa (digs (dv xs)).length cap) ∧ w' = w := by
  obtain ⟨oa', cap', hv, hnone, hsome, hcap, hcm⟩ := hown.shape
  cases hv
  unfold maxLen at hcm
  have HN := Lib.hid hnone; clear hnone
  have HS := Lib.hid hsome; clear hsome
  have HO := Lib.hid hown; clear hown
  go_enter Try.func153, Try.ntmps153
  go_wp2_with fail
  go_loop [0] (fun l => ∃ m : Nat, m ≤ xs.length ∧ l = .slice oa m cap ∧ dv (xs.take m) = dv xs) (fun l => match l with | .slice _ m _ => m | _ => 0)
  case atStart => exact ⟨xs.length, Nat.le_refl _, rfl, by rw [List.take_length]⟩
  case round =>
    obtain ⟨m, hm, rfl, hd⟩ := hrel
    have HD := Lib.hid hd; clear hd
    by_cases h0 : 0 < m
    · obtain ⟨a, rfl⟩ : ∃ a, oa = some a := by
        cases oa with
        | some a => exact ⟨a, rfl⟩
        | none => have h := HN.out rfl; subst h; simp at hm; omega
      obtain ⟨ha, hB, hlt⟩ := HS.out a rfl
      obtain ⟨g, o, sb⟩ := a
      cases ha
      have hc := OwnN.cell HO.out (m - 1) (by omega)
      generalize hx : xs[m - 1] = x at hc
      have Hx := Lib.hid hx; clear hx
      by_cases hz : x = 0
      · have hz1 : ((x : Int) == 0) = true := by simp [hz]
        go_wp2_with fail
        go_round
        case rel => exact ⟨m - 1, by omega, rfl, by
          rw [← HD.out]; have := dv_take_zero xs (m - 1) (by omega) (by rw [Hx.out]; exact hz)
          rw [show m - 1 + 1 = m by omega] at this; exact this.symm⟩
        case measure => show m - 1 < m; omega
      · have hz1 : ((x : Int) == 0) = false := by simp [hz]
        go_wp2_with fail
        go_ret
        have h := congrArg List.length (take_digs xs hs m hm HD.out (fun _ => by rw [Hx.out]; exact hz))
        rw [List.length_take, Nat.min_eq_left hm] at h
        exact ⟨by rw [← h]; rfl, rfl⟩
    · obtain rfl : m = 0 := by omega
      go_wp2_with fail
      go_ret
      have h := congrArg List.length (take_digs xs hs 0 hm HD.out (fun h => by omega))
      rw [List.length_take, Nat.min_eq_left hm] at h
      exact ⟨by rw [← h]; rfl, rfl⟩

/-- what 'trim' hands back -/
theorem OwnN.trimmed {w : World} {B : Nat} {E : TypeId} {k : IntKind} {oa : Option Addr} {n cap : Nat} {xs : List Nat} (h : OwnN w B E k (.slice oa n cap) xs) (hs : small xs) : OwnN w B E k (.slice oa (digs (dv xs)).length cap) (digs (dv xs)) := by
  obtain ⟨h1, h2⟩ := trim_split xs hs
  have h3 := OwnN.cut h (digs (dv xs)).length h2 (fun he => by
    obtain ⟨_, _, hv, hn, _⟩ := h.shape
    cases hv
    rw [hn he] at h2 ⊢
    simpa using h2)
  have e : xs.take (digs (dv xs)).length = digs (dv xs) := by
    generalize digs (dv xs) = ys at *
    rw [h1]; exact List.take_left
  rw [e] at h3
  exact h3

theorem trim_any (B : Nat) (v : Value) (xs : List Nat) (w : World) (hown : OwnU w B v xs) (hs : small xs) (hl : xs.length ≤ 1048576) :
    Calls Try.prog 153 #[v] w fun e w' => w = w' ∧ ∃ v', e = .returned v' ∧ OwnU w B v' (digs (dv xs)) ∧ v'.ownBlock = v.ownBlock := by
  obtain ⟨oa, cap, rfl, _, _⟩ := hown.shp
  refine (trim_at B oa cap xs w hown hs hl).mono ?_
  rintro e w' ⟨rfl, rfl⟩
  exact ⟨rfl, _, rfl, OwnN.trimmed hown hs, by rw [ownBlock_slice, ownBlock_slice]⟩

end Go.Proofs.Ytmcejefeloljiaa

/-
  The walks of package naturals: text, short.
-/
namespace Go.Proofs.Ytmcejefeloljiaa
set_option linter.unusedVariables false
set_option linter.unusedSimpArgs false
open Go.RowKit Nm

theorem info_u8 : (Try.prog.info? 5).map (fun i => (i.zero, i.size, i.bytes)) = some (some (.int .u8 0), 1, 1) := by kernel_rfl
abbrev OwnB (w : World) (B : Nat) (v : Value) (bs : List UInt8) : Prop := OwnN w B 5 .u8 v (bs.map UInt8.toNat)

set_option maxHeartbeats 400000 in
theorem text_any (B : Nat) (v : Value) (xs : List Nat) (w : World) (hown : OwnU w B v xs) (hs : small xs) (hl : xs.length ≤ 1048576) :
    Calls Try.prog 108 #[v] w fun e w' => e = .returned (.string (encS (dv xs))) ∧ Below w.heap.size w w' := by
  have HO := Lib.hid hown; clear hown
  go_enter Try.func108, Try.ntmps108
  go_wp2_with fail
  refine (trim_any B v xs w HO.out hs hl).mono ?_
  rintro e w' ⟨rfl, v, rfl, hown, hob⟩
  have hln : (digs (dv xs)).length ≤ 1048576 := by
    have := (trim_split xs hs).2; omega
  generalize hV : dv xs = V at *
  have HV := Lib.hid hV
  clear hob HO hV hs hl
  obtain ⟨oa, cap, rfl, hnone, hsome, hcap, hcm⟩ := hown.shape
  unfold maxLen at hcm
  have HN := Lib.hid hnone; clear hnone
  have HS := Lib.hid hsome; clear hsome
  have HO := Lib.hid hown; clear hown
  go_wp2_with fail
  go_loopw [3, 4] (fun b i wr => ∃ j : Nat, j ≤ (digs V).length ∧ i = .int .i64 ((j : Int) - 1) ∧ OwnB wr w.heap.size b (top V (4 * j)) ∧ Below w.heap.size w wr) (fun _ i _ => (intOf i + 1).toNat)
  case atStart => exact ⟨(digs V).length, Nat.le_refl _, rfl, by
    rw [top_all V _ (by rw [two_256, show 8 * (4 * (digs V).length) = 32 * (digs V).length by omega, ← B32_pow]; exact (digs_length_le _ _).1 (Nat.le_refl _))]; exact OwnN.nil _ _ _ _, Below.refl _ _⟩
  case round =>
    obtain ⟨j, hj, rfl, hb, hbl⟩ := hrel
    by_cases h0 : 0 < j
    · obtain ⟨a, rfl⟩ : ∃ a, oa = some a := by
        cases oa with
        | some a => exact ⟨a, rfl⟩
        | none => have h := HN.out rfl; rw [h] at hj; simp at hj; omega
      obtain ⟨ha, hB, hlt⟩ := HS.out a rfl
      obtain ⟨g, o, sb⟩ := a
      cases ha
      have hlt : g < w.heap.size := hlt
      have hc := OwnN.cell HO.out (j - 1) (by omega)
      rw [digs_get] at hc
      generalize hx : V / B32 ^ (j - 1) % B32 = x at hc
      have hx2 : x < 4294967296 := by rw [← hx]; exact Nat.mod_lt _ (by unfold B32; omega)
      have Hx := Lib.hid hx; clear hx
      have hj1 : decide (1 ≤ (j : Int)) = true := by simp; omega
      have hlen := fun p => Nat.le_trans (top_length V p) (enc_length_digs V)
      have HLen := Lib.hid hlen; clear hlen
      obtain ⟨wo, rfl⟩ : ∃ wo, wo = wr := ⟨_, rfl⟩
      go_wp2_with fail
      go_loopw [3, 5] (fun b i wr => ∃ k : Nat, k ≤ 4 ∧ i = .int .i64 ((k : Int) - 1) ∧ OwnB wr w.heap.size b (top V (4 * (j - 1) + k)) ∧ Below w.heap.size w wr) (fun _ i _ => (intOf i + 1).toNat)
      case atStart => exact ⟨4, by omega, rfl, by rw [show 4 * (j - 1) + 4 = 4 * j by omega]; exact hb, hbl⟩
      case round =>
        clear hb hbl
        obtain ⟨k, hk, rfl, hb, hbl⟩ := hrel
        by_cases h1 : 0 < k
        · have hcw : wr.cell? ⟨g, j - 1, none⟩ = some (.int .u64 (x : Int)) := (hbl.cell (p := ⟨g, j - 1, none⟩) hlt).trans hc
          have htop := top_succ V (4 * (j - 1) + (k - 1))
          rw [show 4 * (j - 1) + (k - 1) + 1 = 4 * (j - 1) + k by omega, ← byte_of V (j - 1) (k - 1) (by omega), Hx.out] at htop
          have hlb := HLen.out (4 * (j - 1) + k)
          generalize top V (4 * (j - 1) + k) = bs at *
          obtain ⟨ob, cb, hv, _, _, hcb, hcbm⟩ := hb.shape
          rw [List.length_map] at hv hcb
          subst hv
          unfold maxLen at hcbm
          have HT := Lib.hid htop; clear htop
          by_cases hd : (x : Int) / 2 ^ (8 * (k - 1)) % 256 = 0
          · have hd2 : x / 2 ^ (8 * (k - 1)) % 256 = 0 := by
              have : ((x / 2 ^ (8 * (k - 1)) % 256 : Nat) : Int) = 0 := by simpa using hd
              omega
            by_cases hz : 0 < bs.length
            · rw [hd2] at HT
              have HT2 : Hid (top V (4 * (j - 1) + (k - 1)) = bs ++ [UInt8.ofNat 0]) := by
                have := HT.out; rw [if_neg (by omega)] at this; exact this
              clear hd2 HT
              go_wp2_with (at_builtin; refine append1 wr rfl _ _ 149 rfl w.heap.size 5 .u8 1 info_u8 Try.underlying149 _ (bs.map UInt8.toNat) hb rfl _ _ 0 rfl rfl (by rw [List.length_map]; omega) (by omega) hbl.size ?_)
              intro v' w1 hown' hgrow
              have hbl1 := grown_below hbl hb hgrow hbl.size
              clear hb hgrow hbl hcw
              go_wp2_with fail
              go_roundw
              case rel => exact ⟨k - 1, by omega, by rw [show ((k - 1 : Nat) : Int) = (k : Int) - 1 by omega], by rw [HT2.out]; unfold OwnB; simpa using hown', hbl1⟩
              case measure => simp [intOf]; omega
            · rw [hd2] at HT
              have HT2 : Hid (top V (4 * (j - 1) + (k - 1)) = []) := by
                have := HT.out; rw [if_pos (by omega)] at this; exact this
              have hbs : bs = [] := List.eq_nil_of_length_eq_zero (by omega)
              have HBS := Lib.hid hbs
              clear hd2 HT hbs
              go_wp2_with fail
              go_roundw
              case rel => exact ⟨k - 1, by omega, by rw [show ((k - 1 : Nat) : Int) = (k : Int) - 1 by omega], by rw [HT2.out, ← HBS.out]; exact hb, hbl⟩
              case measure => simp [intOf]; omega
          · have hd2 : ((x / 2 ^ (8 * (k - 1)) % 256 : Nat) : Int) = (x : Int) / 2 ^ (8 * (k - 1)) % 256 := by simp
            have hd3 : x / 2 ^ (8 * (k - 1)) % 256 ≠ 0 := fun h => hd (by rw [← hd2, h]; rfl)
            have HT2 : Hid (top V (4 * (j - 1) + (k - 1)) = bs ++ [UInt8.ofNat (x / 2 ^ (8 * (k - 1)) % 256)]) := by
              have := HT.out; rw [if_neg (by omega)] at this; exact this
            have HD := Lib.hid hd2
            clear hd2 HT hd3
            go_wp2_with (at_builtin; refine append1 wr rfl _ _ 149 rfl w.heap.size 5 .u8 1 info_u8 Try.underlying149 _ (bs.map UInt8.toNat) hb rfl _ _ (x / 2 ^ (8 * (k - 1)) % 256) HD.out.symm rfl (by rw [List.length_map]; omega) (by omega) hbl.size ?_)
            intro v' w1 hown' hgrow
            have hbl1 := grown_below hbl hb hgrow hbl.size
            clear hb hgrow hbl hcw
            go_wp2_with fail
            go_roundw
            case rel => exact ⟨k - 1, by omega, by rw [show ((k - 1 : Nat) : Int) = (k : Int) - 1 by omega], by rw [HT2.out]; unfold OwnB; simpa using hown', hbl1⟩
            case measure => simp [intOf]; omega
        · obtain rfl : k = 0 := by omega
          go_wp2_with fail
          go_roundw
          case rel => exact ⟨j - 1, by omega, by rw [show ((j - 1 : Nat) : Int) = (j : Int) - 1 by omega], hb, hbl⟩
          case measure => simp [intOf]; omega
    · obtain rfl : j = 0 := by omega
      rw [top_zero] at hb
      have hcv := fun d hd => OwnN.str (P := Try.prog) hb 149 d Try.underlying149 Try.underlying5 hd
      go_wp2_with fail
      go_ret
      exact ⟨ret_string (by rw [HV.out]; rfl), hbl⟩

set_option maxHeartbeats 400000 in
theorem short_any (B : Nat) (v : Value) (xs : List Nat) (w : World) (hown : OwnU w B v xs) (hs : small xs) (hl : xs.length ≤ 1048576) :
    Calls Try.prog 159 #[v] w fun e w' => e = .returned (.tuple #[.string (shortN (dv xs)).1, .int .i64 (shortN (dv xs)).2]) ∧ Below w.heap.size w w' := by
  have HO := Lib.hid hown; clear hown
  have hln : (digs (dv xs)).length ≤ 1048576 := by
    have := (trim_split xs hs).2; omega
  have hsz : (encS (dv xs)).size ≤ 4194304 := by
    have := enc_length_digs (dv xs)
    rw [size_encS]; omega
  go_enter Try.func159, Try.ntmps159
  go_wp2_with fail
  refine (text_any B v xs w HO.out hs hl).mono ?_
  rintro e w1 ⟨rfl, hbl⟩
  by_cases h : (encS (dv xs)).size ≤ 256
  · have E : Hid (shortN (dv xs) = (encS (dv xs), 0)) := if_pos h
    go_wp2_with fail
    go_ret2
    exact ⟨by rw [E.out]; rfl, hbl⟩
  · have E : Hid (shortN (dv xs) = (⟨#[]⟩, 2)) := if_neg h
    go_wp2_with fail
    go_ret2
    exact ⟨by rw [E.out]; rfl, hbl⟩

end Go.Proofs.Ytmcejefeloljiaa

/-
  The walks of package naturals: less, double.
-/
namespace Go.Proofs.Ytmcejefeloljiaa
set_option linter.unusedVariables false
set_option linter.unusedSimpArgs false
open Go.RowKit Nm

/-- what is left of the subtrahend's digits, and what is done: the row -/
def lessRow (R A : List Nat) : List Nat := R ++ A.drop R.length
theorem lessRow_length (R A : List Nat) (h : R.length ≤ A.length) : (lessRow R A).length = A.length := by simp [lessRow]; omega
theorem lessRow_get (R A : List Nat) (k : Nat) (hR : R.length = k) (h : k < A.length) : (lessRow R A)[k]'(by rw [lessRow_length R A (by omega)]; exact h) = A[k] := by
  subst hR
  simp [lessRow, List.getElem_append_right]
theorem lessRow_set (R A : List Nat) (k r : Nat) (hR : R.length = k) (h : k < A.length) : (lessRow R A).set k r = lessRow (R ++ [r]) A := by
  subst hR
  unfold lessRow
  rw [List.set_append_right _ _ (Nat.le_refl _), Nat.sub_self, List.drop_eq_getElem_cons h, List.set_cons_zero]
  simp

/-- the relation of the loop of 'less' -/
def lessRel (w : World) (B n m g cap : Nat) (k : Nat) (c : Value) (wr : World) : Prop :=
  ∃ (c' : Nat) (R : List Nat), c' ≤ 1 ∧ c = .int .u64 (c' : Int) ∧ R.length = k ∧ small R ∧ dv R + dv ((digs m).take k) = dv ((digs n).take k) + c' * B32 ^ k ∧
      OwnU wr B (.slice (some ⟨g, 0, none⟩) (digs n).length cap) (lessRow R (digs n)) ∧ w.grownBy wr (some g)
theorem less_rel1 {w wr : World} {B n m g cap k c c' x y r : Nat} {R : List Nat} {z zc : Int} (hR : R.length = k) (hs : small R) (hlt : k < (digs n).length)
    (hI : dv R + dv ((digs m).take k) = dv ((digs n).take k) + c * B32 ^ k) (hown : OwnU wr B (.slice (some ⟨g, 0, none⟩) (digs n).length cap) (lessRow R (digs n))) (hgr : w.grownBy wr (some g))
    (hx : (digs n).getD k 0 = x) (hy : (digs m).getD k 0 = y) (hc : c' ≤ 1) (hr : r + c + y = x + c' * B32) (hrs : r < B32) (hz : z = (r : Int)) (hzc : zc = (c' : Int)) :
    lessRel w B n m g cap (k + 1) (.int .u64 zc) (wr.setCell ⟨g, k, none⟩ (.int .u64 z)) := by
  subst hz hzc
  refine ⟨c', R ++ [r], hc, rfl, by simp [hR], small_snoc hs hrs, less_step R _ _ k c c' r hR hI (by rw [hx, hy]; exact hr), ?_, grownBy_set hgr _ _⟩
  rw [← lessRow_set R (digs n) k r hR hlt]
  exact (OwnN.stored hown k r).1
theorem less_rel2 {w wr : World} {B n m g cap k c c' x y r : Nat} {R : List Nat} {z zc z' : Int} (hR : R.length = k) (hs : small R) (hlt : k < (digs n).length)
    (hI : dv R + dv ((digs m).take k) = dv ((digs n).take k) + c * B32 ^ k) (hown : OwnU wr B (.slice (some ⟨g, 0, none⟩) (digs n).length cap) (lessRow R (digs n))) (hgr : w.grownBy wr (some g))
    (hx : (digs n).getD k 0 = x) (hy : (digs m).getD k 0 = y) (hc : c' ≤ 1) (hr : r + c + y = x + c' * B32) (hrs : r < B32) (hz : z = (r : Int)) (hzc : zc = (c' : Int)) (q : Nat) (hq : z' = (q : Int)) :
    lessRel w B n m g cap (k + 1) (.int .u64 zc) ((wr.setCell ⟨g, k, none⟩ (.int .u64 z')).setCell ⟨g, k, none⟩ (.int .u64 z)) := by
  subst hz hzc hq
  refine ⟨c', R ++ [r], hc, rfl, by simp [hR], small_snoc hs hrs, less_step R _ _ k c c' r hR hI (by rw [hx, hy]; exact hr), ?_, grownBy_set (grownBy_set hgr _ _) _ _⟩
  rw [← lessRow_set R (digs n) k r hR hlt]
  have h := (OwnN.stored (OwnN.stored hown k q).1 k r).1
  rw [List.set_set] at h
  exact h

set_option maxHeartbeats 400000 in
theorem less_any (B B' : Nat) (v u : Value) (n m : Nat) (w : World) (hv : OwnU w B v (digs n)) (hu : OwnU w B' u (digs m)) (hmn : m ≤ n) (hln : (digs n).length ≤ 1048576) (hlm : (digs m).length ≤ 1048576) (hne : u.ownBlock = none ∨ u.ownBlock ≠ v.ownBlock) :
    Calls Try.prog 152 #[v, u] w fun e w' => ∃ v', e = .returned v' ∧ OwnU w' B v' (digs (n - m)) ∧ v'.ownBlock = v.ownBlock ∧ w.grownBy w' v.ownBlock := by
  obtain ⟨oa, cap, rfl, h1, h2, hcap, hcm⟩ := hv.shape
  obtain ⟨ob, cap', rfl, h3, h4, hcap', hcm'⟩ := hu.shape
  clear h1 h2 h3 h4
  unfold maxLen at hcm hcm'
  have HO := Lib.hid hv; clear hv
  have HO' := Lib.hid hu; clear hu
  have HNE := Lib.hid hne; clear hne
  go_enter Try.func152, Try.ntmps152
  go_wp2_with fail
  by_cases hn0 : (digs n).length = 0
  · have hn : n = 0 := (digs_eq_nil n).1 (List.eq_nil_of_length_eq_zero hn0)
    subst hn
    have hm : m = 0 := by omega
    subst hm
    refine wp_loop_rounds 1 ?_
    rw [rounds_succ]
    go_wp2_with fail
    refine (trim_any B _ [] w HO.out (by intro x hx; cases hx) (by simp)).mono ?_
    rintro e w' ⟨rfl, v', rfl, hown, hob⟩
    go_wp2_with fail
    go_ret
    exact ⟨v', rfl, hown, hob, World.grownBy.refl _ _⟩
  obtain ⟨g, rfl, hBg, hgw⟩ := OwnN.at HO.out (by omega)
  go_loopw [5, 10] (fun c i wr => ∃ k : Nat, k ≤ (digs n).length ∧ i = .int .i64 k ∧ lessRel w B n m g cap k c wr) (fun _ i _ => (digs n).length - (intOf i).toNat)
  case atStart => exact ⟨0, Nat.zero_le _, rfl, 0, [], by omega, rfl, rfl, (fun x hx => by cases hx), by simp [dv], HO.out, World.grownBy.refl _ _⟩
  case round =>
    obtain ⟨k, hk, rfl, c, R, hc, rfl, hR, hsR, hinv, hown, hgr⟩ := hrel
    have HR := Lib.hid hR; clear hR
    have HI := Lib.hid hinv; clear hinv
    by_cases hlt : k < (digs n).length
    · have hx := lessRow_get R (digs n) k HR.out hlt
      have hcx := OwnN.cell hown k (by rw [lessRow_length R _ (by rw [HR.out]; omega)]; exact hlt)
      rw [hx] at hcx
      have hfx := OwnN.frozen hown k
      clear hx
      have hxs := small_digs n (digs n)[k] (List.getElem_mem _)
      have hgx : (digs n).getD k 0 = (digs n)[k] := by simp [List.getD, hlt]
      generalize hxe : (digs n)[k] = x at *
      clear hxe
      have HGX := Lib.hid hgx; clear hgx
      unfold B32 at hxs
      by_cases hlt2 : k < (digs m).length
      · obtain ⟨g', rfl, _, _⟩ := OwnN.at HO'.out (by omega)
        have hgg : some g' ≠ some g := by
          rcases HNE.out with h | h
          · exact absurd h (by simp [Value.ownBlock])
          · simpa [Value.ownBlock] using h
        have hcy := OwnN.cellIn HO'.out hgr hgg k hlt2
        have hys := small_digs m (digs m)[k] (List.getElem_mem _)
        have hgy : (digs m).getD k 0 = (digs m)[k] := by simp [List.getD, hlt2]
        generalize hye : (digs m)[k] = y at *
        clear hye
        have HGY := Lib.hid hgy; clear hgy
        unfold B32 at hys
        have hgg2 : g' ≠ g := fun h => hgg (by rw [h])
        clear hgg
        by_cases hb : x < c + y
        · go_wp2_with fail
          go_roundw
          case rel => exact ⟨k + 1, by omega, by go_num, less_rel2 (r := x + 4294967296 - (c + y)) (c' := 1) HR.out hsR hlt HI.out hown hgr HGX.out HGY.out (by omega) (by unfold B32; omega) (by unfold B32; omega) (by omega) rfl (x + 4294967296) (by omega)⟩
          case measure => simp [intOf]; omega
        · go_wp2_with fail
          go_roundw
          case rel => exact ⟨k + 1, by omega, by go_num, less_rel1 (r := x - (c + y)) (c' := 0) HR.out hsR hlt HI.out hown hgr HGX.out HGY.out (by omega) (by unfold B32; omega) (by unfold B32; omega) (by omega) rfl⟩
          case measure => simp [intOf]; omega
      · have HGY : Hid ((digs m).getD k 0 = 0) := by
          show (digs m).getD k 0 = 0
          simp [List.getD, List.getElem?_eq_none (by omega : (digs m).length ≤ k)]
        by_cases hb : x < c
        · go_wp2_with fail
          go_roundw
          case rel => exact ⟨k + 1, by omega, by go_num, less_rel2 (r := x + 4294967296 - c) (c' := 1) HR.out hsR hlt HI.out hown hgr HGX.out HGY.out (by omega) (by unfold B32; omega) (by unfold B32; omega) (by omega) rfl (x + 4294967296) (by omega)⟩
          case measure => simp [intOf]; omega
        · go_wp2_with fail
          go_roundw
          case rel => exact ⟨k + 1, by omega, by go_num, less_rel1 (r := x - c) (c' := 0) HR.out hsR hlt HI.out hown hgr HGX.out HGY.out (by omega) (by unfold B32; omega) (by unfold B32; omega) (by omega) rfl⟩
          case measure => simp [intOf]; omega
    · obtain rfl : k = (digs n).length := by omega
      have he := less_end R n m c hsR HR.out hmn hc HI.out
      have HE := Lib.hid he; clear he
      have e1 : lessRow R (digs n) = R := by rw [lessRow, HR.out, List.drop_length, List.append_nil]
      rw [e1] at hown
      clear e1
      go_wp2_with fail
      refine (trim_any B _ R wr hown hsR (by rw [HR.out]; exact hln)).mono ?_
      rintro e w' ⟨rfl, v', rfl, hown', hob⟩
      go_wp2_with fail
      go_ret
      exact ⟨v', rfl, by rw [← HE.out]; exact hown', hob, hgr⟩

end Go.Proofs.Ytmcejefeloljiaa

