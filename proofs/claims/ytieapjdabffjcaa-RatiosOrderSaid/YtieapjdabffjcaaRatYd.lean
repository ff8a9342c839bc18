/-
  The law of order.
-/
import Derived.Test.YtieapjdabffjcaaRatYb
import Derived.Test.YtieapjdabffjcaaRatT_order
namespace Go.Proofs.Ytieapjdabffjcaa
set_option linter.unusedSimpArgs false
set_option linter.unusedVariables false
open Go.RowKit Nm Go.SX

theorem toR_neg (d : Rat) : (toR d).neg = decide (d < 0) := by
  show decide (d.num < 0) = _
  rw [decide_eq_decide, Rat.lt_iff]
  simp
theorem toR_nil (d : Rat) : ((toR d).n.toList == (bs []).toList) = decide (d = 0) := by
  rw [eqL, ← isE_bs]
  show isE (encS d.num.natAbs) = _
  rw [isE_encS, decide_eq_decide]
  constructor
  · intro h; exact Rat.num_eq_zero.1 (by omega)
  · rintro rfl; rfl
theorem cmpQ_lt {p q : Rat} (h : p < q) : cmpQ p q = -1 := by
  unfold cmpQ
  rw [if_neg (Rat.ne_of_lt h), if_pos h]
theorem cmpQ_gt {p q : Rat} (h : q < p) : cmpQ p q = 1 := by
  unfold cmpQ
  rw [if_neg (Rat.ne_of_gt h), if_neg (Rat.not_lt.2 (Rat.le_of_lt h))]
theorem cmpQ_eq (p : Rat) : cmpQ p p = 0 := if_pos rfl
theorem tri (p q : Rat) : p < q ∨ p = q ∨ q < p := by
  by_cases h : p < q
  · exact .inl h
  · by_cases h2 : p = q
    · exact .inr (.inl h2)
    · exact .inr (.inr (Rat.lt_of_le_of_ne (Rat.not_lt.1 h) (Ne.symm h2)))
theorem cmpQ_swap (p q : Rat) : cmpQ q p = -cmpQ p q := by
  rcases tri p q with h | h | h
  · rw [cmpQ_lt h, cmpQ_gt h]; rfl
  · subst h; rw [cmpQ_eq]; rfl
  · rw [cmpQ_lt h, cmpQ_gt h]
theorem cmpQ_add (p q r : Rat) : cmpQ (p + r) (q + r) = cmpQ p q := by
  rcases tri p q with h | h | h
  · rw [cmpQ_lt h, cmpQ_lt (by grind)]
  · subst h; rw [cmpQ_eq, cmpQ_eq]
  · rw [cmpQ_gt h, cmpQ_gt (by grind)]
theorem cmpQ_mul (p q : Rat) {r : Rat} (hr : 0 < r) : cmpQ (p * r) (q * r) = cmpQ p q := by
  rcases tri p q with h | h | h
  · rw [cmpQ_lt h, cmpQ_lt (Rat.mul_lt_mul_of_pos_right h hr)]
  · subst h; rw [cmpQ_eq, cmpQ_eq]
  · rw [cmpQ_gt h, cmpQ_gt (Rat.mul_lt_mul_of_pos_right h hr)]
theorem cmpQ_neg (p q : Rat) : (toR (q - p)).neg = decide (cmpQ p q > 0) := by
  rw [toR_neg, decide_eq_decide]
  rcases tri p q with h | h | h
  · rw [cmpQ_lt h]
    exact ⟨fun h2 => absurd h2 (by grind), fun h2 => absurd h2 (by decide)⟩
  · subst h; rw [cmpQ_eq]
    exact ⟨fun h2 => absurd h2 (by grind), fun h2 => absurd h2 (by decide)⟩
  · rw [cmpQ_gt h]
    exact ⟨fun _ => by decide, fun _ => by grind⟩
theorem cmpQ_zero (p q : Rat) : (cmpQ p q == 0) = decide (p = q) := by
  rw [Bool.eq_iff_iff, beq_iff_eq, decide_eq_true_eq]
  rcases tri p q with h | h | h
  · rw [cmpQ_lt h]
    exact ⟨fun h2 => absurd h2 (by decide), fun h2 => absurd h2 (Rat.ne_of_lt h)⟩
  · subst h; rw [cmpQ_eq]
    exact ⟨fun h2 => rfl, fun h2 => rfl⟩
  · rw [cmpQ_gt h]
    exact ⟨fun h2 => absurd h2 (by decide), fun h2 => absurd h2 (Rat.ne_of_gt h)⟩
theorem cmpQ_nil (p q : Rat) : ((toR (q - p)).n.toList == (bs []).toList) = (cmpQ p q == 0) := by
  rw [toR_nil, cmpQ_zero, decide_eq_decide]
  constructor
  · intro h; grind
  · intro h; grind
theorem cmpQ_le (p q : Rat) : cmpQ p q ≤ 0 ↔ p ≤ q := by
  rcases tri p q with h | h | h
  · rw [cmpQ_lt h]
    exact ⟨fun _ => Rat.le_of_lt h, fun _ => by decide⟩
  · subst h; rw [cmpQ_eq]
    exact ⟨fun _ => Rat.le_refl, fun _ => by decide⟩
  · rw [cmpQ_gt h]
    exact ⟨fun h2 => absurd h2 (by decide), fun h2 => absurd h2 (Rat.not_le.2 h)⟩
theorem cmpQ_trans (p q r : Rat) : (decide (cmpQ p q ≤ 0) && (decide (cmpQ q r ≤ 0) && decide (cmpQ p r > 0))) = false := by
  rw [Bool.eq_false_iff]
  intro h
  simp only [Bool.and_eq_true, decide_eq_true_eq] at h
  obtain ⟨h1, h2, h3⟩ := h
  have := (cmpQ_le p r).2 (Rat.le_trans ((cmpQ_le _ _).1 h1) ((cmpQ_le _ _).1 h2))
  omega
theorem cmpQ_three (p q : Rat) : cmpQ p q = -1 ∨ cmpQ p q = 0 ∨ cmpQ p q = 1 := by
  rcases tri p q with h | h | h
  · exact .inl (cmpQ_lt h)
  · subst h; exact .inr (.inl (cmpQ_eq _))
  · exact .inr (.inr (cmpQ_gt h))
set_option maxHeartbeats 4000000 in
theorem order_core (p q r : Rat) (hp : Bd p 20) (hq : Bd q 20) (hr : Bd r 20) (h1 : decide ((((toR p).n.size : Nat) : Int) ≤ 20) = true) (h2 : decide ((((toR p).d.size : Nat) : Int) ≤ 20) = true)
    (h3 : decide ((((toR q).n.size : Nat) : Int) ≤ 20) = true) (h4 : decide ((((toR q).d.size : Nat) : Int) ≤ 20) = true) (h5 : decide ((((toR r).n.size : Nat) : Int) ≤ 20) = true) (h6 : decide ((((toR r).d.size : Nat) : Int) ≤ 20) = true) :
    sxEnd Try.prog Rd.no lawCon.p 60 6 [.agg #[.bool (toR p).neg, .string (toR p).n, .string (toR p).d], .agg #[.bool (toR q).neg, .string (toR q).n, .string (toR q).d], .agg #[.bool (toR r).neg, .string (toR r).n, .string (toR r).d]] = some (.returned (.bool true)) := by
  rw [T_order]
  have bpr := add_bd hp hr (by omega)
  have bqr := add_bd hq hr (by omega)
  have mpr := mul_bd hp hr
  have mqr := mul_bd hq hr
  have a1 := add_toR hp hr (by omega)
  have a2 := add_toR hq hr (by omega)
  have s1 := sub_toR hq hp (by omega)
  have m1 := mul_toR hp hr (by omega)
  have m2 := mul_toR hq hr (by omega)
  have k1 := cmp_toR hp hq (by omega)
  have k2 := cmp_toR hq hp (by omega)
  have k3 := cmp_toR hq hr (by omega)
  have k4 := cmp_toR hp hr (by omega)
  have k5 := cmp_toR bpr bqr (by omega)
  have k6 := cmp_toR mpr mqr (by omega)
  have c1 := check_toR hp (by omega)
  have c2 := check_toR hq (by omega)
  have c3 := check_toR hr (by omega)
  have z1 := szE hp (by omega)
  have z2 := szE hq (by omega)
  have z3 := szE hr (by omega)
  have z4 := szE bpr (by omega)
  have z5 := szE bqr (by omega)
  have z6 := szE mpr (by omega)
  have z7 := szE mqr (by omega)
  have n1 := cmpQ_neg p q
  have n2 := cmpQ_nil p q
  have n3 := toR_neg r
  have n4 := toR_nil r
  have w1 := cmpQ_swap p q
  have w2 := cmpQ_add p q r
  have t1 := cmpQ_trans p q r
  have e1 := eqT p q
  rw [← cmpQ_zero] at e1
  simp only [a1, a2, s1, m1, m2, k1, k2, k3, k4, k5, k6, c1, c2, c3, z1, z2, z3, z4, z5, z6, z7, n1, n2, n3, n4, w1, w2, e1, h1, h2, h3, h4, h5, h6, Bool.and_self, cond_true, cond_false, Bool.not_true, bne_self_eq_false]
  have w3 : 0 < r → cmpQ (p * r) (q * r) = cmpQ p q := cmpQ_mul p q
  have hc := cmpQ_three p q
  generalize cmpQ p q = c at *
  generalize cmpQ q r = k at *
  generalize cmpQ p r = l at *
  rcases tri r 0 with hr0 | hr0 | hr0
  · rw [decide_eq_true hr0]
    rcases hc with rfl | rfl | rfl <;> cases g1 : decide (k ≤ 0) <;> cases g2 : decide (l > 0) <;> first | rfl | (rw [g1, g2] at t1; exact absurd t1 (by decide))
  · rw [decide_eq_true hr0, decide_eq_false (by rw [hr0]; decide : ¬ r < 0)]
    rcases hc with rfl | rfl | rfl <;> cases g1 : decide (k ≤ 0) <;> cases g2 : decide (l > 0) <;> first | rfl | (rw [g1, g2] at t1; exact absurd t1 (by decide))
  · rw [decide_eq_false (Rat.ne_of_gt hr0), decide_eq_false (Rat.not_lt.2 (Rat.le_of_lt hr0)), w3 hr0]
    rcases hc with rfl | rfl | rfl <;> cases g1 : decide (k ≤ 0) <;> cases g2 : decide (l > 0) <;> first | rfl | (rw [g1, g2] at t1; exact absurd t1 (by decide))
theorem order_end (x y z : Rt) (hx : (szB x.n && szB x.d) = true) (hy : (szB y.n && szB y.d) = true) (hz : (szB z.n && szB z.d) = true) :
    sxEnd Try.prog Rd.no lawCon.p 60 6 [rtV x, rtV y, rtV z] = some (.returned (.bool true)) := by
  unfold rtV
  by_cases c1 : checkR x = 0
  · by_cases c2 : checkR y = 0
    · by_cases c3 : checkR z = 0
      · cases h1 : decide (((x.n.size : Nat) : Int) ≤ 20)
        · rw [T_order, hx, hy, hz, eqz' c1, eqz' c2, eqz' c3, h1]; rfl
        · cases h2 : decide (((x.d.size : Nat) : Int) ≤ 20)
          · rw [T_order, hx, hy, hz, eqz' c1, eqz' c2, eqz' c3, h1, h2]; rfl
          · cases h3 : decide (((y.n.size : Nat) : Int) ≤ 20)
            · rw [T_order, hx, hy, hz, eqz' c1, eqz' c2, eqz' c3, h1, h2, h3]; rfl
            · cases h4 : decide (((y.d.size : Nat) : Int) ≤ 20)
              · rw [T_order, hx, hy, hz, eqz' c1, eqz' c2, eqz' c3, h1, h2, h3, h4]; rfl
              · cases h5 : decide (((z.n.size : Nat) : Int) ≤ 20)
                · rw [T_order, hx, hy, hz, eqz' c1, eqz' c2, eqz' c3, h1, h2, h3, h4, h5]; rfl
                · cases h6 : decide (((z.d.size : Nat) : Int) ≤ 20)
                  · rw [T_order, hx, hy, hz, eqz' c1, eqz' c2, eqz' c3, h1, h2, h3, h4, h5, h6]; rfl
                  · obtain ⟨p, rfl, _⟩ := valid_toR c1
                    obtain ⟨q, rfl, _⟩ := valid_toR c2
                    obtain ⟨r, rfl, _⟩ := valid_toR c3
                    exact order_core p q r (bd_of' (of_decide_eq_true h1) (of_decide_eq_true h2)) (bd_of' (of_decide_eq_true h3) (of_decide_eq_true h4)) (bd_of' (of_decide_eq_true h5) (of_decide_eq_true h6)) h1 h2 h3 h4 h5 h6
      · rw [T_order, hx, hy, hz, eqz' c1, eqz' c2, nez' c3]; rfl
    · rw [T_order, hx, hy, eqz' c1, nez' c2]; rfl
  · rw [T_order, hx, nez' c1]; rfl
theorem ratiosOrder_walk (x y z : Rt) (hx : (szB x.n && szB x.d) = true) (hy : (szB y.n && szB y.d) = true) (hz : (szB z.n && szB z.d) = true) :
    Plain Try.prog 6 [rtV x, rtV y, rtV z] (.returned (.bool true)) := plain_sound pOk (ECon.ok lawCon_ok) 60 (order_end x y z hx hy hz)

end Go.Proofs.Ytieapjdabffjcaa
