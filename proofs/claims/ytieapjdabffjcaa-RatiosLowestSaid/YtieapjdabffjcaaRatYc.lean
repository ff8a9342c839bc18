/-
  The law of results in lowest terms.
-/
import Derived.Test.YtieapjdabffjcaaRatYb
import Derived.Test.YtieapjdabffjcaaRatT_lowest
namespace Go.Proofs.Ytieapjdabffjcaa
set_option linter.unusedSimpArgs false
set_option linter.unusedVariables false
open Go.RowKit Nm Go.SX

set_option maxHeartbeats 4000000 in
theorem lowest_core (p q : Rat) (hp : Bd p 20) (hq : Bd q 20) (h1 : decide ((((toR p).n.size : Nat) : Int) ≤ 20) = true) (h2 : decide ((((toR p).d.size : Nat) : Int) ≤ 20) = true)
    (h3 : decide ((((toR q).n.size : Nat) : Int) ≤ 20) = true) (h4 : decide ((((toR q).d.size : Nat) : Int) ≤ 20) = true) :
    sxEnd Try.prog Rd.no lawCon.p 60 9 [.agg #[.bool (toR p).neg, .string (toR p).n, .string (toR p).d], .agg #[.bool (toR q).neg, .string (toR q).n, .string (toR q).d]] = some (.returned (.bool true)) := by
  rw [T_lowest]
  have bpq := add_bd hp hq (by omega)
  have bpqp := add_bd bpq hp (by omega)
  have bzp := add_bd bd_zero hp (by omega)
  have e0 : (0 : Rat) + p = p := Rat.zero_add _
  have bs' := sub_bd hp hq (by omega)
  have bm := mul_bd hp hq
  have a1 := add_toR hp hq (by omega)
  have a2 := add_toR bpq hp (by omega)
  have a3 := add_toR bd_zero hp (by omega)
  have s1 := sub_toR hp hq (by omega)
  have m1 := mul_toR hp hq (by omega)
  have c1 := check_toR hp (by omega)
  have c2 := check_toR hq (by omega)
  have c3 := check_toR bpq (by omega)
  have c4 := check_toR bs' (by omega)
  have c5 := check_toR bm (by omega)
  have z1 := szE hp (by omega)
  have z2 := szE hq (by omega)
  have z3 := szE bpq (by omega)
  have z4 := szE bs' (by omega)
  have z5 := szE bm (by omega)
  have z6 := szE bpqp (by omega)
  have sb1 : szB (bs [1]) = true := rfl
  have d1 : decide (p - q = 0) = decide (p = q) := by
    rw [decide_eq_decide]
    constructor
    · intro h; grind
    · intro h; grind
  have d2 : decide (p * q = 0) = (decide (p = 0) || decide (q = 0)) := by
    rw [← Bool.decide_or, decide_eq_decide]
    exact Rat.mul_eq_zero
  simp only [toR_zero, toR_zero', toR_one', a1, a2, a3, e0, s1, m1, c1, c2, c3, c4, c5, z1, z2, z3, z4, z5, z6, sb1, h1, h2, h3, h4, sz_nil, sz_one, eqT, eqZ, d1, d2,
      decide_true, Bool.and_self, cond_true, cond_false, Bool.not_true, bne_self_eq_false]
  cases decide (p = q) <;> cases decide (p = 0) <;> cases decide (q = 0) <;> rfl
theorem lowest_end (x y : Rt) (hx : (szB x.n && szB x.d) = true) (hy : (szB y.n && szB y.d) = true) :
    sxEnd Try.prog Rd.no lawCon.p 60 9 [rtV x, rtV y] = some (.returned (.bool true)) := by
  unfold rtV
  by_cases c1 : checkR x = 0
  · by_cases c2 : checkR y = 0
    · cases h1 : decide (((x.n.size : Nat) : Int) ≤ 20)
      · rw [T_lowest, hx, hy, eqz' c1, eqz' c2, h1]; rfl
      · cases h2 : decide (((x.d.size : Nat) : Int) ≤ 20)
        · rw [T_lowest, hx, hy, eqz' c1, eqz' c2, h1, h2]; rfl
        · cases h3 : decide (((y.n.size : Nat) : Int) ≤ 20)
          · rw [T_lowest, hx, hy, eqz' c1, eqz' c2, h1, h2, h3]; rfl
          · cases h4 : decide (((y.d.size : Nat) : Int) ≤ 20)
            · rw [T_lowest, hx, hy, eqz' c1, eqz' c2, h1, h2, h3, h4]; rfl
            · obtain ⟨p, rfl, _⟩ := valid_toR c1
              obtain ⟨q, rfl, _⟩ := valid_toR c2
              exact lowest_core p q (bd_of' (of_decide_eq_true h1) (of_decide_eq_true h2)) (bd_of' (of_decide_eq_true h3) (of_decide_eq_true h4)) h1 h2 h3 h4
    · rw [T_lowest, hx, hy, eqz' c1, nez' c2]; rfl
  · rw [T_lowest, hx, nez' c1]; rfl
theorem ratiosLowest_walk (x y : Rt) (hx : (szB x.n && szB x.d) = true) (hy : (szB y.n && szB y.d) = true) :
    Plain Try.prog 9 [rtV x, rtV y] (.returned (.bool true)) := plain_sound pOk (ECon.ok lawCon_ok) 60 (lowest_end x y hx hy)

end Go.Proofs.Ytieapjdabffjcaa
