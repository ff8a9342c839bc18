/-
  Facts for the laws of package ratios.
-/
import Derived.Test.YtieapjdabffjcaaRatV
namespace Go.Proofs.Ytieapjdabffjcaa
open Go.RowKit Nm Go.SX

theorem rt_eq (a b : Rt) : (a.neg == b.neg && (a.n == b.n && (a.d == b.d && true))) = true ↔ a = b := by
  obtain ⟨n, x, y⟩ := a
  obtain ⟨m, u, v⟩ := b
  simp only [beqB, Rt.mk.injEq, Bool.and_true, Bool.and_eq_true, decide_eq_true_eq, beq_iff_eq]
theorem eqT (p q : Rat) : ((toR p).neg == (toR q).neg && ((toR p).n == (toR q).n && ((toR p).d == (toR q).d && true))) = decide (p = q) := by
  rw [Bool.eq_iff_iff, rt_eq, toR_iff, decide_eq_true_eq]
theorem eqZ (p : Rat) : ((toR p).neg == false && ((toR p).n == bs [] && ((toR p).d == strOf [1] && true))) = decide (p = 0) := by
  have := eqT p 0
  rwa [← toR_zero'] at this
theorem szE {q : Rat} {k : Nat} (h : Bd q k) (hk : k ≤ 256) : (szB (toR q).n && szB (toR q).d) = true := by
  rw [(h.zR hk).1, (h.zR hk).2]
  rfl
theorem sz_nil : szB (bs []) = true := rfl
theorem sz_one : szB (strOf [1]) = true := rfl

end Go.Proofs.Ytieapjdabffjcaa
