/-
  Small laws for walks: a slice of numbers that the call itself made.
-/
import Derived.Test.YtieapjdabffjcaaRows
import Derived.WalkKit
import Derived.WalkSpells
import Derived.WalkLawsBesides
import Derived.Deep.QuietTactic
import Derived.BigQuiet
import Derived.Lib.Hide
import Derived.StillTailTactics
import Derived.Deep.RegionWith
import Derived.Deep.RegionHeld3
import Derived.Deep.RegionLaw
namespace Go.Proofs.Ytieapjdabffjcaa
open Go.RowKit

/-- The slice v, of numbers of kind k, owns the cells xs (from block B on). -/
def OwnN (w : World) (B : Nat) (E : TypeId) (k : IntKind) (v : Value) (xs : List Nat) : Prop :=
  w.ownsRow B E 1 v xs.length (xs.map fun x => .int k ((x : Nat) : Int))

section
variable {w w' : World} {B : Nat} {E : TypeId} {k : IntKind} {v : Value} {xs : List Nat}
theorem OwnN.shape (h : OwnN w B E k v xs) : ∃ oa cap, v = .slice oa xs.length cap ∧ (oa = none → xs = []) ∧ (∀ a, oa = some a → a = ⟨a.block, 0, none⟩ ∧ B ≤ a.block ∧ a.block < w.heap.size) ∧ xs.length ≤ cap ∧ cap ≤ maxLen := by
  rcases h.2 with ⟨rfl, hn⟩ | ⟨g, cap, cur, rfl, hb, hg, hle, hcm, _⟩
  · exact ⟨none, 0, by rw [hn], fun _ => List.eq_nil_of_length_eq_zero hn, (fun _ h => by cases h), by omega, by simp [maxLen]⟩
  · refine ⟨_, cap, rfl, (fun h => by cases h), (fun a h => ?_), hle, hcm⟩
    cases h
    exact ⟨rfl, hb, (Array.getElem?_eq_some_iff.1 hg).1⟩
/-- the slice's form, no more -/
theorem OwnN.shp (h : OwnN w B E k v xs) : ∃ oa cap, v = .slice oa xs.length cap ∧ xs.length ≤ cap ∧ cap ≤ 9223372036854775807 := by
  obtain ⟨oa, cap, hv, _, _, h1, h2⟩ := h.shape
  exact ⟨oa, cap, hv, h1, by simpa [maxLen] using h2⟩
theorem OwnN.cell {g n cap : Nat} (h : OwnN w B E k (.slice (some ⟨g, 0, none⟩) n cap) xs) (j : Nat) (hj : j < xs.length) :
    w.cell? ⟨g, j, none⟩ = some (.int k ((xs[j] : Nat) : Int)) := by
  have hn : n = xs.length := by
    obtain ⟨oa, c, hv, _⟩ := h.shape
    cases hv; rfl
  subst hn
  rw [World.ownsRow.cellAt h j (by omega)]
  simp [hj]
theorem OwnN.frozen {g n cap : Nat} (h : OwnN w B E k (.slice (some ⟨g, 0, none⟩) n cap) xs) (j : Nat) : w.frozen? ⟨g, j, none⟩ = false := by
  have hn : n = xs.length := by
    obtain ⟨oa, c, hv, _⟩ := h.shape
    cases hv; rfl
  subst hn
  exact World.ownsRow.frozenAt h j
theorem OwnN.stored {g n cap : Nat} (h : OwnN w B E k (.slice (some ⟨g, 0, none⟩) n cap) xs) (j x : Nat) :
    OwnN (w.setCell ⟨g, j, none⟩ (.int k (x : Int))) B E k (.slice (some ⟨g, 0, none⟩) n cap) (xs.set j x) ∧ w.grownBy (w.setCell ⟨g, j, none⟩ (.int k (x : Int))) (some g) := by
  have hn : n = xs.length := by
    obtain ⟨oa, c, hv, _⟩ := h.shape
    cases hv; rfl
  subst hn
  have := World.ownsRow.stored h j (.int k (x : Int))
  unfold OwnN
  rw [List.length_set, List.map_set]
  exact this
theorem OwnN.lt (h : OwnN w B E k v xs) : ∀ g, v.ownBlock = some g → B ≤ g ∧ g < w.heap.size := World.ownsRow.lt h
theorem OwnN.kept {row : Option Nat} (h : OwnN w B E k v xs) (hg : w.grownBy w' row) (hne : v.ownBlock = none ∨ v.ownBlock ≠ row) : OwnN w' B E k v xs :=
  World.ownsRow.kept h hg hne
theorem OwnN.alloc (h : OwnN w B E k v xs) (o : Obj) : OwnN (w.alloc o) B E k v xs := World.ownsRow.alloc h o
theorem OwnN.drew (h : OwnN w B E k v xs) : OwnN w.drew B E k v xs := h
theorem OwnN.drewN (h : OwnN w B E k v xs) (n : Nat) : OwnN (w.drewN n) B E k v xs := h
theorem OwnN.below (h : OwnN w B E k v xs) (hb : Below w.heap.size w w') : OwnN w' B E k v xs :=
  World.ownsRow.kept h (row := none) ⟨hb.os, hb.tape, hb.output, hb.size, fun i hi _ => hb.block i hi⟩ (by cases v.ownBlock <;> simp)
theorem OwnN.nil (w : World) (B : Nat) (E : TypeId) (k : IntKind) : OwnN w B E k (.slice none 0 0) [] := World.ownsRow_nil w B E 1
theorem OwnN.mono {B' : Nat} (h : OwnN w B E k v xs) (hB : B' ≤ B) : OwnN w B' E k v xs := by
  refine ⟨h.1, ?_⟩
  rcases h.2 with h2 | ⟨g, cap, cur, a, b, c⟩
  · exact .inl h2
  · exact .inr ⟨g, cap, cur, a, Nat.le_trans hB b, c⟩
theorem OwnN.made {n : Nat} {v : Value} (h : w.ownsRow B E 1 v n (madeCells #[.int k 0] n).toList) : OwnN w B E k v (List.replicate n 0) := by
  unfold OwnN
  rw [toList_madeCells_one] at h
  simpa using h
/-- cut at a shorter length -/
theorem OwnN.cut {oa : Option Addr} {n cap : Nat} (h : OwnN w B E k (.slice oa n cap) xs) (m : Nat) (hm : m ≤ xs.length) (hs : oa = none → m = 0) : OwnN w B E k (.slice oa m cap) (xs.take m) := by
  rcases h.2 with ⟨hv, hn⟩ | ⟨g, c, cur, hv, hb, hg, hle, hcm, hsz, htk⟩
  · cases hv
    have : m = 0 := hs rfl
    subst this
    simpa using OwnN.nil w B E k
  · cases hv
    have hl : (xs.take m).length = m := by rw [List.length_take]; omega
    refine ⟨by simp, .inr ⟨g, cap, cur, by rw [hl], hb, hg, by omega, hcm, hsz, ?_⟩⟩
    rw [hl, Nat.mul_one, List.map_take, ← htk, Nat.mul_one, List.take_take, Nat.min_eq_left hm]
end

theorem below_of_grown {B : Nat} {a w w' : World} {row : Option Nat} (h : Below B a w) (hg : w.grownBy w' row) (hB : B ≤ w.heap.size) (hr : ∀ k, row = some k → B ≤ k) : Below B a w' := h.grown hg hB hr
theorem sdata (s : ByteArray) : s.toList = s.data.toList := ByteArray.toList_eq s
theorem sdata_length (s : ByteArray) : s.data.toList.length = s.size := by rw [Array.length_toList]; rfl
theorem isEmpty_false {s : ByteArray} (h : 0 < s.size) : s.toList.isEmpty = false := by
  rw [sdata, List.isEmpty_eq_false_iff, ← List.length_pos_iff, sdata_length]; exact h
theorem isEmpty_true {s : ByteArray} (h : ¬ 0 < s.size) : s.toList.isEmpty = true := by
  rw [sdata, List.isEmpty_iff, ← List.length_eq_zero_iff, sdata_length]; omega
theorem ret_bool {a b : Bool} (h : a = b) : Ending.returned (.bool a) = .returned (.bool b) := by rw [h]
theorem ret_int {k : IntKind} {a b : Int} (h : a = b) : Ending.returned (.int k a) = .returned (.int k b) := by rw [h]
theorem ret_string {a b : ByteArray} (h : a = b) : Ending.returned (.string a) = .returned (.string b) := by rw [h]

theorem ownBlock_slice (oa : Option Addr) (n c : Nat) : (Value.slice oa n c).ownBlock = oa.map Addr.block := by cases oa <;> rfl
theorem wrapU (n : Nat) (h : n < 18446744073709551616) : IntKind.u64.wrap (n : Int) = (n : Int) := by rw [IntKind.wrap_u64]; omega
theorem orU (a b : Nat) (ha : a < 18446744073709551616) (hb : b < 18446744073709551616) : bits BinOp.or IntKind.u64 (a : Int) (b : Int) = ((a ||| b : Nat) : Int) := bits_or_u64_nat a b ha hb
theorem andU (a b : Nat) (ha : a < 18446744073709551616) (hb : b < 18446744073709551616) : bits BinOp.and IntKind.u64 (a : Int) (b : Int) = ((a &&& b : Nat) : Int) := bits_and_u64_nat a b ha hb
theorem drew_below {B : Nat} {w w' : World} (h : Below B w w') : Below B w w'.drew := h.drew

/-- 'l = append(l, x)', l a slice of numbers of the call's own: the one element lies in a block just made. -/
theorem append1 {P : Program} (W : World) {ops : Array Oper} {rest : List Oper} {o : Oper} {a : Act} {Q : Exit → Act → World → Prop} (hgd : o.guard = none) (s x : Operand) (t : TypeId)
    (ho : o.op = .call { callee := .builtin .append, args := #[s, x], argTypes := #[t, t] })
    (B : Nat) (E : TypeId) (k : IntKind) (bytes : Nat) (hinfo : (P.info? E).map (fun i => (i.zero, i.size, i.bytes)) = some (some (.int k 0), 1, bytes)) (ht : P.underlying t = some (.slice E))
    (v : Value) (xs : List Nat) (hown : OwnN W B E k v xs) (hs : a.eval s = v) (E' : TypeId) (z : Int) (n : Nat) (hz : z = (n : Int)) (hx : a.eval x = .slice (some ⟨W.heap.size, 0, none⟩) 1 1)
    (hlen : xs.length + 1 ≤ 4294967296) (hb : bytes ≤ 8) (hB : B ≤ W.heap.size)
    (h : ∀ v' w', OwnN w' B E k v' (xs ++ [n]) → (W.alloc (.cells #[.int k z] E')).grownBy w' v.ownBlock → wpList P ops Q rest (a.put o.dst v') w') :
    wpList P ops Q (o :: rest) a (W.alloc (.cells #[.int k z] E')) := by
  obtain ⟨i, hi, h0, h1, h2⟩ := info_parts hinfo
  subst hz
  refine wpList_append_own _ hgd s x t ho B E i (.int k 0) 1 bytes ht hi h0 h1 h2 rfl (by decide) v xs.length _ hs (hown.alloc _) ⟨W.heap.size, 0, none⟩ 1 1 [.int k (n : Int)] hx rfl (cell_one_new _ _ _) ?_ ?_ ?_ ?_ ?_
  · intro u hu; simp at hu; subst hu; rfl
  · unfold maxLen; omega
  · have : (xs.length + 1) * bytes ≤ 4294967296 * 8 := Nat.mul_le_mul hlen hb
    omega
  · simp; omega
  · intro v' w' h3 h4 _
    refine h v' w' ?_ h4
    unfold OwnN
    simpa using h3
theorem grown_below {B : Nat} {a W w' : World} {E' : TypeId} {u v : Value} {xs : List Nat} {E : TypeId} {k : IntKind} (h : Below B a W) (hown : OwnN W B E k v xs) (hg : (W.alloc (.cells #[u] E')).grownBy w' v.ownBlock) (hB : B ≤ W.heap.size) : Below B a w' :=
  (h.alloc hB _).grown hg (by simp; omega) fun i hi => (hown.lt i hi).1
/-- 'string(b)' of bytes of the call's own. -/
theorem OwnN.str {P : Program} {w : World} {B : Nat} {E : TypeId} {v : Value} {bs : List UInt8} (h : OwnN w B E .u8 v (bs.map UInt8.toNat)) (src dst : TypeId) (hs : P.underlying src = some (.slice E)) (he : P.underlying E = some (.int .u8)) (hd : P.underlying dst = some .string) :
    (convert src dst v).run P w = .ok (.string ⟨bs.toArray⟩) w := by
  obtain ⟨oa, cap, rfl, hnone, hsome, _⟩ := h.shape
  cases oa with
  | none =>
    have hb : bs = [] := by simpa using hnone rfl
    subst hb
    exact run_convert_bytes_nil w src E hs he _ _ dst hd
  | some a =>
    obtain ⟨ha, _, _⟩ := hsome a rfl
    obtain ⟨g, o, sb⟩ := a
    cases ha
    rw [run_convert_bytes_arg (P := P) w src E hs he g 0 (bs.map UInt8.toNat).length cap (bs.map fun b => ((b.toNat : Nat) : Int)) (by simp) (fun i hi => by
      have := OwnN.cell h i hi
      rw [Nat.zero_add, this]
      simp at hi
      simp [hi]) dst hd]
    simp [strOfNums, Function.comp_def]
theorem OwnN.kept2 {w' W : World} {B : Nat} {E : TypeId} {k : IntKind} {v u : Value} {xs : List Nat} {E' : TypeId} {z : Value} (h : OwnN W B E k v xs) (hg : (W.alloc (.cells #[z] E')).grownBy w' u.ownBlock) (hne : v.ownBlock = none ∨ v.ownBlock ≠ u.ownBlock) : OwnN w' B E k v xs :=
  (h.alloc _).kept hg hne

theorem grownBy_trans {w w1 w2 : World} {row : Option Nat} (h1 : w.grownBy w1 row) (h2 : w1.grownBy w2 row) : w.grownBy w2 row :=
  ⟨h2.os.trans h1.os, h2.tape.trans h1.tape, h2.output.trans h1.output, Nat.le_trans h1.size h2.size, fun k hk hne => (h2.block k (Nat.lt_of_lt_of_le hk h1.size) hne).trans (h1.block k hk hne)⟩
theorem grownBy_drew {w w1 : World} {row : Option Nat} (h : w.grownBy w1 row) : w.grownBy w1.drew row := ⟨h.os, h.tape, h.output, h.size, h.block⟩
theorem grownBy_set {w w1 : World} {g : Nat} (h : w.grownBy w1 (some g)) (j : Nat) (u : Value) : w.grownBy (w1.setCell ⟨g, j, none⟩ u) (some g) :=
  grownBy_trans h ⟨rfl, rfl, rfl, by simp, fun k _ hk => Below.heap_setCell _ _ _ _ (fun e => hk (by rw [e]))⟩
theorem grownBy_alloc {w w1 : World} {row : Option Nat} (h : w.grownBy w1 row) (o : Obj) : w.grownBy (w1.alloc o) row :=
  grownBy_trans h (World.grownBy_alloc _ _ _)
theorem below_grown {B : Nat} {w w' : World} {row : Option Nat} (h : w.grownBy w' row) (hB : B ≤ w.heap.size) (hr : ∀ k, row = some k → B ≤ k) : Below B w w' :=
  (Below.refl B w).grown h hB hr
/-- a slice of numbers that is only read, in a later world that may have written one other block -/
theorem OwnN.cellIn {w w' : World} {B : Nat} {E : TypeId} {k : IntKind} {g n cap : Nat} {xs : List Nat} {row : Option Nat} (h : OwnN w B E k (.slice (some ⟨g, 0, none⟩) n cap) xs) (hg : w.grownBy w' row) (hne : some g ≠ row) (j : Nat) (hj : j < xs.length) :
    w'.cell? ⟨g, j, none⟩ = some (.int k ((xs[j] : Nat) : Int)) :=
  (h.kept hg (Or.inr hne)).cell j hj
theorem OwnN.at {w : World} {B : Nat} {E : TypeId} {k : IntKind} {oa : Option Addr} {n cap : Nat} {xs : List Nat} (h : OwnN w B E k (.slice oa n cap) xs) (hx : 0 < xs.length) : ∃ g, oa = some ⟨g, 0, none⟩ ∧ B ≤ g ∧ g < w.heap.size := by
  rcases h.2 with ⟨hv, hn⟩ | ⟨g, c, cur, hv, hb, hg, hle, hcm, hsz, htk⟩
  · omega
  · cases hv
    exact ⟨g, rfl, hb, (Array.getElem?_eq_some_iff.1 hg).1⟩
theorem OwnN.len {w : World} {B : Nat} {E : TypeId} {k : IntKind} {oa : Option Addr} {n cap : Nat} {xs : List Nat} (h : OwnN w B E k (.slice oa n cap) xs) : n = xs.length := by
  obtain ⟨_, _, hv, _⟩ := h.shape
  cases hv; rfl

theorem or_low (x c : Nat) (hc : c ≤ 1) : 2 * x ||| c = 2 * x + c := by
  have h := Nat.shiftLeft_add_eq_or_of_lt (show c < 2 ^ 1 by omega) x
  rw [Nat.shiftLeft_eq] at h
  rw [show 2 * x = x * 2 ^ 1 by omega]; exact h.symm
theorem mask32 (y : Nat) (hy : y < 18446744073709551616) : bits BinOp.and IntKind.u64 (y : Int) 4294967295 = ((y % 4294967296 : Nat) : Int) := by
  have h := andU y 4294967295 hy (by omega)
  have e : y &&& 4294967295 = y % 4294967296 := Nat.and_two_pow_sub_one_eq_mod y 32
  rw [e] at h; exact h

theorem and_bit (x p : Nat) (hx : x < 18446744073709551616) : bits BinOp.and IntKind.u64 ((x : Int) / 2 ^ p) 1 = ((x / 2 ^ p % 2 : Nat) : Int) := by
  have h := and_one_u64 ((x : Int) / 2 ^ p) (Int.ediv_nonneg (by omega) (by
    have : (0 : Int) < 2 ^ p := Int.pow_pos (by omega)
    omega)) (by
    have e : ((x : Int) / 2 ^ p) = ((x / 2 ^ p : Nat) : Int) := by simp
    have := Nat.div_le_self x (2 ^ p)
    rw [e]; omega)
  rw [h]; simp

end Go.Proofs.Ytieapjdabffjcaa
