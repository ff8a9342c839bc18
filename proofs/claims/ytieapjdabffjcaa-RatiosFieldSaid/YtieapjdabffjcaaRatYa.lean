/-
  The law of fields.
-/
import Derived.Test.YtieapjdabffjcaaRatX
import Derived.Test.YtieapjdabffjcaaRatT_field
namespace Go.Proofs.Ytieapjdabffjcaa
open Go.RowKit Nm Go.SX

theorem bd_of {q : Rat} (h1 : (((toR q).n.size : Nat) : Int) ≤ 20) (h2 : (((toR q).d.size : Nat) : Int) ≤ 20) : Bd q 20 := Bd.of_size (by omega) (by omega)
set_option maxHeartbeats 4000000 in
theorem field_core (p q r : Rat) (hp : Bd p 20) (hq : Bd q 20) (hr : Bd r 20) (h1 : decide ((((toR p).n.size : Nat) : Int) ≤ 20) = true) (h2 : decide ((((toR p).d.size : Nat) : Int) ≤ 20) = true)
    (h3 : decide ((((toR q).n.size : Nat) : Int) ≤ 20) = true) (h4 : decide ((((toR q).d.size : Nat) : Int) ≤ 20) = true) (h5 : decide ((((toR r).n.size : Nat) : Int) ≤ 20) = true) (h6 : decide ((((toR r).d.size : Nat) : Int) ≤ 20) = true) :
    sxEnd Try.prog Rd.no lawCon.p 60 5 [.agg #[.bool (toR p).neg, .string (toR p).n, .string (toR p).d], .agg #[.bool (toR q).neg, .string (toR q).n, .string (toR q).d], .agg #[.bool (toR r).neg, .string (toR r).n, .string (toR r).d]] = some (.returned (.bool true)) := by
  rw [T_field]
  have bpq := add_bd hp hq (by omega)
  have bqr := add_bd hq hr (by omega)
  have bpqr := add_bd bpq hr (by omega)
  have mpq := mul_bd hp hq
  have mqr := mul_bd hq hr
  have mpr := mul_bd hp hr
  have a1 := add_toR hp hq (by omega)
  have a2 := add_toR hq hp (by omega)
  have a3 := add_toR bpq hr (by omega)
  have a4 := add_toR hq hr (by omega)
  have a5 := add_toR hp bqr (by omega)
  have a6 := add_toR mpq mpr (by omega)
  have a7 := add_toR hp bd_zero (by omega)
  have s1 := sub_toR bpq hq (by omega)
  have m1 := mul_toR hp hq (by omega)
  have m2 := mul_toR hq hp (by omega)
  have m3 := mul_toR mpq hr (by omega)
  have m4 := mul_toR hq hr (by omega)
  have m5 := mul_toR hp mqr (by omega)
  have m6 := mul_toR hp bqr (by omega)
  have m7 := mul_toR hp hr (by omega)
  have m8 := mul_toR hp bd_one (by omega)
  have e1 : q + p = p + q := Rat.add_comm _ _
  have e2 : p + (q + r) = p + q + r := (Rat.add_assoc _ _ _).symm
  have e3 : q * p = p * q := Rat.mul_comm _ _
  have e4 : p * (q * r) = p * q * r := (Rat.mul_assoc _ _ _).symm
  have e5 : p * (q + r) = p * q + p * r := Rat.mul_add _ _ _
  have e6 : p + q - q = p := by grind
  have e7 : p + 0 = p := Rat.add_zero _
  have e8 : p * 1 = p := Rat.mul_one _
  have c1 := check_toR hp (by omega)
  have c2 := check_toR hq (by omega)
  have c3 := check_toR hr (by omega)
  have z1 := szE hp (by omega)
  have z2 := szE hq (by omega)
  have z3 := szE hr (by omega)
  have z4 := szE bpq (by omega)
  have z5 := szE bqr (by omega)
  have z6 := szE mpq (by omega)
  have z7 := szE mqr (by omega)
  have z8 := szE mpr (by omega)
  by_cases hz : q = 0
  · have d1 := div_zero hp hq (by omega) hz
    simp only [toR_zero', toR_one', a1, a2, a3, a4, a5, a6, a7, s1, m1, m2, m3, m4, m5, m6, m7, m8, e1, e2, e3, e4, e5, e6, e7, e8, c1, c2, c3, z1, z2, z3, z4, z5, z6, z7, z8, h1, h2, h3, h4, h5, h6, sz_nil, sz_one, eqT, eqZ, d1,
      decide_true, Bool.and_self, cond_true, cond_false, Bool.not_true, bne_self_eq_false, decide_eq_true hz]
    rfl
  · have d1 := div_toR mpq hq (by omega) hz
    have e9 : p * q / q = p := by grind
    simp only [toR_zero', toR_one', a1, a2, a3, a4, a5, a6, a7, s1, m1, m2, m3, m4, m5, m6, m7, m8, e1, e2, e3, e4, e5, e6, e7, e8, c1, c2, c3, z1, z2, z3, z4, z5, z6, z7, z8, h1, h2, h3, h4, h5, h6, sz_nil, sz_one, eqT, eqZ, d1, e9,
      decide_true, Bool.and_self, cond_true, cond_false, Bool.not_true, bne_self_eq_false, decide_eq_false hz]
    rfl
theorem nez {x : Rt} (h : ¬ checkR x = 0) : (checkR x != 0) = true := by simpa using h
theorem eqz {x : Rt} (h : checkR x = 0) : (checkR x != 0) = false := by rw [h]; rfl
theorem field_end (x y z : Rt) (hx : (szB x.n && szB x.d) = true) (hy : (szB y.n && szB y.d) = true) (hz : (szB z.n && szB z.d) = true) :
    sxEnd Try.prog Rd.no lawCon.p 60 5 [rtV x, rtV y, rtV z] = some (.returned (.bool true)) := by
  unfold rtV
  by_cases c1 : checkR x = 0
  · by_cases c2 : checkR y = 0
    · by_cases c3 : checkR z = 0
      · cases h1 : decide (((x.n.size : Nat) : Int) ≤ 20)
        · rw [T_field, hx, hy, hz, eqz c1, eqz c2, eqz c3, h1]; rfl
        · cases h2 : decide (((x.d.size : Nat) : Int) ≤ 20)
          · rw [T_field, hx, hy, hz, eqz c1, eqz c2, eqz c3, h1, h2]; rfl
          · cases h3 : decide (((y.n.size : Nat) : Int) ≤ 20)
            · rw [T_field, hx, hy, hz, eqz c1, eqz c2, eqz c3, h1, h2, h3]; rfl
            · cases h4 : decide (((y.d.size : Nat) : Int) ≤ 20)
              · rw [T_field, hx, hy, hz, eqz c1, eqz c2, eqz c3, h1, h2, h3, h4]; rfl
              · cases h5 : decide (((z.n.size : Nat) : Int) ≤ 20)
                · rw [T_field, hx, hy, hz, eqz c1, eqz c2, eqz c3, h1, h2, h3, h4, h5]; rfl
                · cases h6 : decide (((z.d.size : Nat) : Int) ≤ 20)
                  · rw [T_field, hx, hy, hz, eqz c1, eqz c2, eqz c3, h1, h2, h3, h4, h5, h6]; rfl
                  · obtain ⟨p, rfl, _⟩ := valid_toR c1
                    obtain ⟨q, rfl, _⟩ := valid_toR c2
                    obtain ⟨r, rfl, _⟩ := valid_toR c3
                    exact field_core p q r (bd_of (of_decide_eq_true h1) (of_decide_eq_true h2)) (bd_of (of_decide_eq_true h3) (of_decide_eq_true h4)) (bd_of (of_decide_eq_true h5) (of_decide_eq_true h6)) h1 h2 h3 h4 h5 h6
      · rw [T_field, hx, hy, hz, eqz c1, eqz c2, nez c3]; rfl
    · rw [T_field, hx, hy, eqz c1, nez c2]; rfl
  · rw [T_field, hx, nez c1]; rfl
theorem ratiosField_walk (x y z : Rt) (hx : (szB x.n && szB x.d) = true) (hy : (szB y.n && szB y.d) = true) (hz : (szB z.n && szB z.d) = true) :
    Plain Try.prog 5 [rtV x, rtV y, rtV z] (.returned (.bool true)) := plain_sound pOk (ECon.ok lawCon_ok) 60 (field_end x y z hx hy hz)

end Go.Proofs.Ytieapjdabffjcaa
