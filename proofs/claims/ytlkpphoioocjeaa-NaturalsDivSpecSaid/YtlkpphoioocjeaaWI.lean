/-
  Small laws for walks: a slice of ints, negative ones too, that the call itself made.
-/
import Derived.Test.YtlkpphoioocjeaaW
namespace Go.Proofs.Ytlkpphoioocjeaa
open Go.RowKit

/-- The slice v, of numbers of kind k, owns the cells xs (from block B on). -/
def OwnI (w : World) (B : Nat) (E : TypeId) (k : IntKind) (v : Value) (xs : List Int) : Prop :=
  w.ownsRow B E 1 v xs.length (xs.map fun x => .int k x)

section
variable {w w' : World} {B : Nat} {E : TypeId} {k : IntKind} {v : Value} {xs : List Int}
theorem OwnI.shape (h : OwnI w B E k v xs) : ∃ oa cap, v = .slice oa xs.length cap ∧ (oa = none → xs = []) ∧ (∀ a, oa = some a → a = ⟨a.block, 0, none⟩ ∧ B ≤ a.block ∧ a.block < w.heap.size) ∧ xs.length ≤ cap ∧ cap ≤ maxLen := by
  rcases h.2 with ⟨rfl, hn⟩ | ⟨g, cap, cur, rfl, hb, hg, hle, hcm, _⟩
  · exact ⟨none, 0, by rw [hn], fun _ => List.eq_nil_of_length_eq_zero hn, (fun _ h => by cases h), by omega, by simp [maxLen]⟩
  · refine ⟨_, cap, rfl, (fun h => by cases h), (fun a h => ?_), hle, hcm⟩
    cases h
    exact ⟨rfl, hb, (Array.getElem?_eq_some_iff.1 hg).1⟩
/-- the slice's form, no more -/
theorem OwnI.shp (h : OwnI w B E k v xs) : ∃ oa cap, v = .slice oa xs.length cap ∧ xs.length ≤ cap ∧ cap ≤ 9223372036854775807 := by
  obtain ⟨oa, cap, hv, _, _, h1, h2⟩ := h.shape
  exact ⟨oa, cap, hv, h1, by simpa [maxLen] using h2⟩
theorem OwnI.cell {g n cap : Nat} (h : OwnI w B E k (.slice (some ⟨g, 0, none⟩) n cap) xs) (j : Nat) (hj : j < xs.length) :
    w.cell? ⟨g, j, none⟩ = some (.int k xs[j]) := by
  have hn : n = xs.length := by
    obtain ⟨oa, c, hv, _⟩ := h.shape
    cases hv; rfl
  subst hn
  rw [World.ownsRow.cellAt h j (by omega)]
  simp [hj]
theorem OwnI.frozen {g n cap : Nat} (h : OwnI w B E k (.slice (some ⟨g, 0, none⟩) n cap) xs) (j : Nat) : w.frozen? ⟨g, j, none⟩ = false := by
  have hn : n = xs.length := by
    obtain ⟨oa, c, hv, _⟩ := h.shape
    cases hv; rfl
  subst hn
  exact World.ownsRow.frozenAt h j
theorem OwnI.stored {g n cap : Nat} (h : OwnI w B E k (.slice (some ⟨g, 0, none⟩) n cap) xs) (j : Nat) (x : Int) :
    OwnI (w.setCell ⟨g, j, none⟩ (.int k x)) B E k (.slice (some ⟨g, 0, none⟩) n cap) (xs.set j x) ∧ w.grownBy (w.setCell ⟨g, j, none⟩ (.int k x)) (some g) := by
  have hn : n = xs.length := by
    obtain ⟨oa, c, hv, _⟩ := h.shape
    cases hv; rfl
  subst hn
  have := World.ownsRow.stored h j (.int k x)
  unfold OwnI
  rw [List.length_set, List.map_set]
  exact this
theorem OwnI.lt (h : OwnI w B E k v xs) : ∀ g, v.ownBlock = some g → B ≤ g ∧ g < w.heap.size := World.ownsRow.lt h
theorem OwnI.kept {row : Option Nat} (h : OwnI w B E k v xs) (hg : w.grownBy w' row) (hne : v.ownBlock = none ∨ v.ownBlock ≠ row) : OwnI w' B E k v xs :=
  World.ownsRow.kept h hg hne
theorem OwnI.alloc (h : OwnI w B E k v xs) (o : Obj) : OwnI (w.alloc o) B E k v xs := World.ownsRow.alloc h o
theorem OwnI.drew (h : OwnI w B E k v xs) : OwnI w.drew B E k v xs := h
theorem OwnI.drewN (h : OwnI w B E k v xs) (n : Nat) : OwnI (w.drewN n) B E k v xs := h
theorem OwnI.below (h : OwnI w B E k v xs) (hb : Below w.heap.size w w') : OwnI w' B E k v xs :=
  World.ownsRow.kept h (row := none) ⟨hb.os, hb.tape, hb.output, hb.size, fun i hi _ => hb.block i hi⟩ (by cases v.ownBlock <;> simp)
theorem OwnI.nil (w : World) (B : Nat) (E : TypeId) (k : IntKind) : OwnI w B E k (.slice none 0 0) [] := World.ownsRow_nil w B E 1
theorem OwnI.mono {B' : Nat} (h : OwnI w B E k v xs) (hB : B' ≤ B) : OwnI w B' E k v xs := by
  refine ⟨h.1, ?_⟩
  rcases h.2 with h2 | ⟨g, cap, cur, a, b, c⟩
  · exact .inl h2
  · exact .inr ⟨g, cap, cur, a, Nat.le_trans hB b, c⟩
theorem OwnI.made {n : Nat} {v : Value} (h : w.ownsRow B E 1 v n (madeCells #[.int k 0] n).toList) : OwnI w B E k v (List.replicate n 0) := by
  unfold OwnI
  rw [toList_madeCells_one] at h
  simpa using h
/-- cut at a shorter length -/
theorem OwnI.cut {oa : Option Addr} {n cap : Nat} (h : OwnI w B E k (.slice oa n cap) xs) (m : Nat) (hm : m ≤ xs.length) (hs : oa = none → m = 0) : OwnI w B E k (.slice oa m cap) (xs.take m) := by
  rcases h.2 with ⟨hv, hn⟩ | ⟨g, c, cur, hv, hb, hg, hle, hcm, hsz, htk⟩
  · cases hv
    have : m = 0 := hs rfl
    subst this
    simpa using OwnI.nil w B E k
  · cases hv
    have hl : (xs.take m).length = m := by rw [List.length_take]; omega
    refine ⟨by simp, .inr ⟨g, cap, cur, by rw [hl], hb, hg, by omega, hcm, hsz, ?_⟩⟩
    rw [hl, Nat.mul_one, List.map_take, ← htk, Nat.mul_one, List.take_take, Nat.min_eq_left hm]
end

/-- 'l = append(l, x)', l a slice of numbers of the call's own: the one element lies in a block just made. -/
theorem append1I {P : Program} (W : World) {ops : Array Oper} {rest : List Oper} {o : Oper} {a : Act} {Q : Exit → Act → World → Prop} (hgd : o.guard = none) (s x : Operand) (t : TypeId)
    (ho : o.op = .call { callee := .builtin .append, args := #[s, x], argTypes := #[t, t] })
    (B : Nat) (E : TypeId) (k : IntKind) (bytes : Nat) (hinfo : (P.info? E).map (fun i => (i.zero, i.size, i.bytes)) = some (some (.int k 0), 1, bytes)) (ht : P.underlying t = some (.slice E))
    (v : Value) (xs : List Int) (hown : OwnI W B E k v xs) (hs : a.eval s = v) (E' : TypeId) (z n : Int) (hz : z = n) (hx : a.eval x = .slice (some ⟨W.heap.size, 0, none⟩) 1 1)
    (hlen : xs.length + 1 ≤ 4294967296) (hb : bytes ≤ 8) (hB : B ≤ W.heap.size)
    (h : ∀ v' w', OwnI w' B E k v' (xs ++ [n]) → (W.alloc (.cells #[.int k z] E')).grownBy w' v.ownBlock → wpList P ops Q rest (a.put o.dst v') w') :
    wpList P ops Q (o :: rest) a (W.alloc (.cells #[.int k z] E')) := by
  obtain ⟨i, hi, h0, h1, h2⟩ := info_parts hinfo
  subst hz
  refine wpList_append_own _ hgd s x t ho B E i (.int k 0) 1 bytes ht hi h0 h1 h2 rfl (by decide) v xs.length _ hs (hown.alloc _) ⟨W.heap.size, 0, none⟩ 1 1 [.int k z] hx rfl (cell_one_new _ _ _) ?_ ?_ ?_ ?_ ?_
  · intro u hu; simp at hu; subst hu; rfl
  · unfold maxLen; omega
  · have : (xs.length + 1) * bytes ≤ 4294967296 * 8 := Nat.mul_le_mul hlen hb
    omega
  · simp; omega
  · intro v' w' h3 h4 _
    refine h v' w' ?_ h4
    unfold OwnI
    simpa using h3
theorem grown_belowI {B : Nat} {a W w' : World} {E' : TypeId} {u v : Value} {xs : List Int} {E : TypeId} {k : IntKind} (h : Below B a W) (hown : OwnI W B E k v xs) (hg : (W.alloc (.cells #[u] E')).grownBy w' v.ownBlock) (hB : B ≤ W.heap.size) : Below B a w' :=
  (h.alloc hB _).grown hg (by simp; omega) fun i hi => (hown.lt i hi).1
theorem OwnI.kept2 {w' W : World} {B : Nat} {E : TypeId} {k : IntKind} {v u : Value} {xs : List Int} {E' : TypeId} {z : Value} (h : OwnI W B E k v xs) (hg : (W.alloc (.cells #[z] E')).grownBy w' u.ownBlock) (hne : v.ownBlock = none ∨ v.ownBlock ≠ u.ownBlock) : OwnI w' B E k v xs :=
  (h.alloc _).kept hg hne

theorem OwnI.at {w : World} {B : Nat} {E : TypeId} {k : IntKind} {oa : Option Addr} {n cap : Nat} {xs : List Int} (h : OwnI w B E k (.slice oa n cap) xs) (hx : 0 < xs.length) : ∃ g, oa = some ⟨g, 0, none⟩ ∧ B ≤ g ∧ g < w.heap.size := by
  rcases h.2 with ⟨hv, hn⟩ | ⟨g, c, cur, hv, hb, hg, hle, hcm, hsz, htk⟩
  · omega
  · cases hv
    exact ⟨g, rfl, hb, (Array.getElem?_eq_some_iff.1 hg).1⟩
theorem OwnI.len {w : World} {B : Nat} {E : TypeId} {k : IntKind} {oa : Option Addr} {n cap : Nat} {xs : List Int} (h : OwnI w B E k (.slice oa n cap) xs) : n = xs.length := by
  obtain ⟨_, _, hv, _⟩ := h.shape
  cases hv; rfl

end Go.Proofs.Ytlkpphoioocjeaa
