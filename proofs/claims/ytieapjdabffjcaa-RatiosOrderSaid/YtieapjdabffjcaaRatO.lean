/-
  Package ratios: the table of its functions.
-/
import Derived.Test.YtieapjdabffjcaaRatT3
namespace Go.Proofs.Ytieapjdabffjcaa
open Go.RowKit Nm Go.SX

theorem check_neg (a : Rt) (h : checkR a = 0) : checkR (negR a) = 0 := by
  unfold checkR at h ⊢
  unfold badR at h ⊢
  unfold negR
  simp only
  cases hn : a.neg <;> cases he : isE a.n <;> simp_all
theorem floorR_range (a : Rt) : -4611686018427387904 ≤ (floorR a).1 ∧ (floorR a).1 ≤ 4611686018427387904 := by
  obtain ⟨r1, r2⟩ := intF_range (divF a.n a.d).1
  unfold floorR
  generalize (intF (divF a.n a.d).1).1 = i at *
  generalize (intF (divF a.n a.d).1).2 = o at *
  generalize isE (divF a.n a.d).2.1 = z
  have key : ∀ j : Int, 0 ≤ j → -4611686018427387904 ≤ (if j > 4611686018427387904 then ((0, 2) : Int × Int) else (-j, 0)).1 ∧ (if j > 4611686018427387904 then ((0, 2) : Int × Int) else (-j, 0)).1 ≤ 4611686018427387904 := by
    intro j hj
    split
    · simp
    · simp only; omega
  split
  · split
    · simp
    · rename_i h
      split
      · simp only; omega
      · split
        · exact key _ (by omega)
        · exact key _ (by omega)
  · simp
theorem ceil_end (n : Bool) (a b : ByteArray) (ha : szB a = true) (hb : szB b = true) :
    sxEnd Try.prog Rd.no flCon.p 40 16 [.agg #[.bool n, .string a, .string b]] = some (.returned (intV (ceilR ⟨n, a, b⟩))) := by
  rw [T_ceil]
  simp only [ha, hb, Bool.and_self, cond_true, eqL, ← isE_bs]
  unfold ceilR intV
  have w : ∀ x : Rt, IntKind.i64.wrap (0 - (floorR x).1) = -(floorR x).1 := fun x => by
    have := floorR_range x
    rw [wrapI (by omega) (by omega)]
    omega
  have w2 : ∀ x : Rt, IntKind.i64.wrap (-(floorR x).1) = -(floorR x).1 := fun x => by
    have := w x
    rwa [Int.zero_sub] at this
  by_cases h1 : checkR ⟨n, a, b⟩ = 0
  · cases n <;> simp [h1, w2, negR]
  · have h1' : (checkR ⟨n, a, b⟩ != 0) = true := by simpa using h1
    simp [h1, h1']
def retR (p : Rt × Int) : R3 OutE := .ok (.ret (.tup [.val (.agg #[.bool p.1.neg, .string p.1.n, .string p.1.d]), .val (.int .i64 p.2)]))
def retI (p : Int × Int) : R3 OutE := .ok (.ret (.tup [.val (.int .i64 p.1), .val (.int .i64 p.2)]))
def binR (g : Rt → Rt → Rt × Int) (vs : List Value) : R3 OutE :=
  match vs with
  | [.agg ⟨[.bool n, .string a, .string b]⟩, .agg ⟨[.bool m, .string c, .string d]⟩] => .need (szB a && szB b && (szB c && szB d)) (retR (g ⟨n, a, b⟩ ⟨m, c, d⟩))
  | _ => .no
def apiCon : ECon := fun f =>
  match f with
  | 22 => some (binR addR)
  | 24 => some (binR subR)
  | 26 => some (binR mulR)
  | 28 => some (binR divR)
  | 30 => some fun vs => match vs with
    | [.agg ⟨[.bool n, .string a, .string b]⟩, .agg ⟨[.bool m, .string c, .string d]⟩] => .need (szB a && szB b && (szB c && szB d)) (retI (cmpR ⟨n, a, b⟩ ⟨m, c, d⟩))
    | _ => .no
  | 16 => some fun vs => match vs with
    | [.agg ⟨[.bool n, .string a, .string b]⟩] => .need (szB a && szB b) (retI (ceilR ⟨n, a, b⟩))
    | _ => .no
  | 12 => some fun vs => match vs with
    | [.int .i64 n, .int .i64 d] => .need (inI n && inI d) (retR (newR n d))
    | _ => .no
  | f => flCon f
theorem binR_ok {f : FuncId} {g : Rt → Rt → Rt × Int} (h : ∀ n m a b c d, szB a = true → szB b = true → szB c = true → szB d = true →
    Plain Try.prog f [.agg #[.bool n, .string a, .string b], .agg #[.bool m, .string c, .string d]] (.returned (resV (g ⟨n, a, b⟩ ⟨m, c, d⟩)))) (vs : List Value) (e : OutE) (he : (binR g vs).res = some e) :
    ∃ e0, e.end = some e0 ∧ Plain Try.prog f vs e0 := by
  unfold binR at he
  split at he
  · obtain ⟨h1, h2⟩ := R3.need_some he
    cases h2
    simp only [Bool.and_eq_true] at h1
    exact ⟨_, rfl, h _ _ _ _ _ _ h1.1.1 h1.1.2 h1.2.1 h1.2.2⟩
  · cases he
theorem apiCon_ok : EConOk Try.prog apiCon := by
  have pl : ∀ {f : FuncId} {vs : List Value} {e0 : Ending}, sxEnd Try.prog Rd.no ratCon.p 40 f vs = some e0 → Plain Try.prog f vs e0 := fun h => plain_sound pOk (ECon.ok ratCon_ok) 40 h
  intro f h hf
  unfold apiCon at hf
  split at hf
  · cases hf; exact ⟨⟨_, Try.func22, rfl⟩, binR_ok fun n m a b c d h1 h2 h3 h4 => pl (add_end n m a b c d h1 h2 h3 h4)⟩
  · cases hf; exact ⟨⟨_, Try.func24, rfl⟩, binR_ok fun n m a b c d h1 h2 h3 h4 => pl (sub_end n m a b c d h1 h2 h3 h4)⟩
  · cases hf; exact ⟨⟨_, Try.func26, rfl⟩, binR_ok fun n m a b c d h1 h2 h3 h4 => pl (mul_end n m a b c d h1 h2 h3 h4)⟩
  · cases hf; exact ⟨⟨_, Try.func28, rfl⟩, binR_ok fun n m a b c d h1 h2 h3 h4 => pl (div_end n m a b c d h1 h2 h3 h4)⟩
  · cases hf
    refine ⟨⟨_, Try.func30, rfl⟩, fun vs e he => ?_⟩
    simp only at he
    split at he
    · obtain ⟨h1, h2⟩ := R3.need_some he
      cases h2
      simp only [Bool.and_eq_true] at h1
      exact ⟨_, rfl, pl (cmp_end _ _ _ _ _ _ h1.1.1 h1.1.2 h1.2.1 h1.2.2)⟩
    · cases he
  · cases hf
    refine ⟨⟨_, Try.func16, rfl⟩, fun vs e he => ?_⟩
    simp only at he
    split at he
    · obtain ⟨h1, h2⟩ := R3.need_some he
      cases h2
      rw [Bool.and_eq_true] at h1
      exact ⟨_, rfl, plain_sound pOk (ECon.ok flCon_ok) 40 (ceil_end _ _ _ h1.1 h1.2)⟩
    · cases he
  · cases hf
    refine ⟨⟨_, Try.func12, rfl⟩, fun vs e he => ?_⟩
    simp only at he
    split at he
    · obtain ⟨h1, h2⟩ := R3.need_some he
      cases h2
      rw [Bool.and_eq_true] at h1
      exact ⟨_, rfl, pl (new_end _ _ h1.1 h1.2)⟩
    · cases he
  · exact flCon_ok _ _ hf

end Go.Proofs.Ytieapjdabffjcaa
