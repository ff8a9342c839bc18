/-
  The law of whole numbers.
-/
import Derived.Test.YtieapjdabffjcaaRatYd
import Derived.Test.YtieapjdabffjcaaRatT_ints
namespace Go.Proofs.Ytieapjdabffjcaa
set_option linter.unusedSimpArgs false
set_option linter.unusedVariables false
open Go.RowKit Nm Go.SX

theorem floor_div (m : Int) {n : Int} (hn : 0 < n) : ((m : Rat) / (n : Rat)).floor = m / n := by
  have hq : (0 : Rat) < (n : Rat) := Rat.intCast_pos.2 hn
  have key : ∀ x : Int, x ≤ ((m : Rat) / (n : Rat)).floor ↔ x ≤ m / n := fun x => by
    rw [Rat.le_floor_iff, Int.le_ediv_iff_mul_le hn, ← Rat.not_lt, Rat.div_lt_iff hq, Rat.not_lt, ← Rat.intCast_mul, Rat.intCast_le_intCast]
  exact Int.le_antisymm ((key _).1 (Int.le_refl _)) ((key _).2 (Int.le_refl _))
theorem cmpQ_int_lt (a b : Int) : decide (cmpQ (a : Rat) (b : Rat) < 0) = decide (a < b) := by
  rw [decide_eq_decide]
  refine Iff.trans ?_ Rat.intCast_lt_intCast
  rcases tri (a : Rat) (b : Rat) with h | h | h
  · rw [cmpQ_lt h]; exact ⟨fun _ => h, fun _ => by decide⟩
  · rw [h, cmpQ_eq]; exact ⟨fun h2 => absurd h2 (by decide), fun h2 => absurd h2 Rat.lt_irrefl⟩
  · rw [cmpQ_gt h]; exact ⟨fun h2 => absurd h2 (by decide), fun h2 => absurd h2 (Rat.not_lt.2 (Rat.le_of_lt h))⟩
theorem cmpQ_int_gt (a b : Int) : decide (cmpQ (a : Rat) (b : Rat) > 0) = decide (a > b) := by
  have h := cmpQ_int_lt b a
  rw [cmpQ_swap (a : Rat) (b : Rat)] at h
  show _ = decide (b < a)
  rw [← h, decide_eq_decide]
  omega
theorem toR_int (n : Int) (h : inI n = true) : newR n 1 = (toR (n : Rat), 0) := by
  have := new_toR (n := n) (d := 1) h rfl (by omega)
  rw [this]
  congr 2
  grind
theorem inI_of {n : Int} (h : -9223372036854775808 ≤ n) (h2 : n ≤ 9223372036854775807) : inI n = true := by
  unfold inI
  rw [Bool.and_eq_true, decide_eq_true_eq, decide_eq_true_eq]
  omega
/-- what the quotient's bounds are -/
theorem bounds_div (m n : Int) (hn : 0 < n) : -((-m) / n) - m / n = (if m.tmod n = 0 then 0 else 1) ∧ m / n * n ≤ m ∧ m ≤ -((-m) / n) * n := by
  have h1 := Int.mul_ediv_add_emod m n
  have h2 := Int.emod_nonneg m (Int.ne_of_gt hn)
  have h3 := Int.emod_lt_of_pos m hn
  have h4 := Int.mul_ediv_add_emod (-m) n
  have h5 := Int.emod_nonneg (-m) (Int.ne_of_gt hn)
  have h6 := Int.emod_lt_of_pos (-m) hn
  have h7 : m.tmod n = 0 ↔ m % n = 0 := by
    rw [← Int.dvd_iff_tmod_eq_zero, ← Int.dvd_iff_emod_eq_zero]
  have h8 : m % n = 0 ↔ (-m) % n = 0 := by
    rw [← Int.dvd_iff_emod_eq_zero, ← Int.dvd_iff_emod_eq_zero, Int.dvd_neg]
  generalize m / n = u at *
  generalize (-m) / n = v at *
  generalize m % n = r at *
  generalize (-m) % n = s at *
  have e : n * (u + v) = -(r + s) := by rw [Int.mul_add]; omega
  have e1 : u * n = n * u := Int.mul_comm _ _
  have e2 : -v * n = -(n * v) := by rw [Int.neg_mul, Int.mul_comm]
  refine ⟨?_, by omega, by omega⟩
  by_cases hr : r = 0
  · rw [if_pos (h7.2 hr)]
    have : s = 0 := h8.1 hr
    have h9 : n * (u + v) = 0 := by omega
    have := (Int.mul_eq_zero.1 h9).resolve_left (by omega)
    omega
  · rw [if_neg (fun h => hr (h7.1 h))]
    have hs : s ≠ 0 := fun h => hr (h8.2 h)
    have l1 : u + v < 0 := by
      refine Int.lt_of_not_ge fun hc => ?_
      have := Int.mul_nonneg (Int.le_of_lt hn) hc
      omega
    have l2 : -2 < u + v := by
      refine Int.lt_of_not_ge fun hc => ?_
      have := Int.mul_le_mul_of_nonneg_left hc (Int.le_of_lt hn)
      omega
    omega
theorem div_small {m n : Int} (hn : 0 < n) (hm : -2147483648 ≤ m) (hm2 : m ≤ 2147483648) : -2147483648 ≤ m / n ∧ m / n ≤ 2147483648 := by
  constructor
  · rw [Int.le_ediv_iff_mul_le hn]
    have := Int.mul_le_mul_of_nonpos_left (a := -2147483648) (b := n) (c := 1) (by omega) (by omega)
    omega
  · have : m / n < 2147483649 := by
      rw [Int.ediv_lt_iff_lt_mul hn]
      omega
    omega
theorem lim_ok {z : Int} (h : -2147483648 ≤ z ∧ z ≤ 2147483648) : limQ z = (z, 0) := if_pos (by omega)
theorem prod_small {a b : Int} (ha : -2147483648 ≤ a) (ha2 : a ≤ 2147483648) (hb : -2147483648 ≤ b) (hb2 : b ≤ 2147483648) : -4611686018427387904 ≤ a * b ∧ a * b ≤ 4611686018427387904 := by
  have h : (a * b).natAbs ≤ 2147483648 * 2147483648 := by
    rw [Int.natAbs_mul]
    exact Nat.mul_le_mul (by omega) (by omega)
  omega
theorem neg_div (a b : Int) : (a : Rat) / (b : Rat) = ((-a : Int) : Rat) / ((-b : Int) : Rat) := by
  rw [Rat.intCast_neg, Rat.intCast_neg]
  grind
theorem quo_facts {m n : Int} (hn : 0 < n) (hm : -2147483648 ≤ m) (hm2 : m ≤ 2147483648) (hn2 : n ≤ 2147483648) :
    Bd ((m : Rat) / (n : Rat)) 8 ∧ floorR (toR ((m : Rat) / (n : Rat))) = (m / n, 0) ∧ ceilR (toR ((m : Rat) / (n : Rat))) = (-(-m / n), 0) := by
  have bd : Bd ((m : Rat) / (n : Rat)) 8 := by
    have h : ((m : Rat) / (n : Rat)) = mkRat m n.natAbs := by
      rw [Rat.mkRat_eq_div]
      congr 1
      have : ((n.natAbs : Int) : Rat) = (n : Rat) := by rw [Int.natAbs_of_nonneg (Int.le_of_lt hn)]
      rw [← this, Rat.intCast_natCast]
    rw [h]
    exact mk_bd (by omega) ((enc_length_le _ _).2 (by omega)) ((enc_length_le _ _).2 (by omega))
  have hneg : -((m : Rat) / (n : Rat)) = ((-m : Int) : Rat) / (n : Rat) := by rw [Rat.intCast_neg]; grind
  refine ⟨bd, ?_, ?_⟩
  · rw [floor_toR bd (by omega), floor_div m hn, lim_ok (div_small hn hm hm2)]
  · rw [ceil_toR bd (by omega), hneg, floor_div (-m) hn, lim_ok (div_small hn (by omega) (by omega))]
set_option maxHeartbeats 4000000 in
theorem ints_end (a b : Int) (ha : -2147483648 ≤ a) (ha2 : a ≤ 2147483647) (hb : -2147483648 ≤ b) (hb2 : b ≤ 2147483647) :
    sxEnd Try.prog Rd.no lawCon.p 60 7 [.int .i32 a, .int .i32 b] = some (.returned (.bool true)) := by
  rw [T_ints]
  have ia : inI a = true := inI_of (by omega) (by omega)
  have ib : inI b = true := inI_of (by omega) (by omega)
  have pr := prod_small ha (by omega) hb (by omega)
  have wa : IntKind.i64.wrap a = a := wrapI (by omega) (by omega)
  have wb : IntKind.i64.wrap b = b := wrapI (by omega) (by omega)
  have ws : IntKind.i64.wrap (a + b) = a + b := wrapI (by omega) (by omega)
  have wd : IntKind.i64.wrap (a - b) = a - b := wrapI (by omega) (by omega)
  have wm : IntKind.i64.wrap (a * b) = a * b := wrapI (by omega) (by omega)
  have is : inI (a + b) = true := inI_of (by omega) (by omega)
  have id' : inI (a - b) = true := inI_of (by omega) (by omega)
  have im : inI (a * b) = true := inI_of (by omega) (by omega)
  have i1 : inI 1 = true := rfl
  have na := toR_int a ia
  have nb := toR_int b ib
  have ns := toR_int _ is
  have nd := toR_int _ id'
  have nm := toR_int _ im
  rw [Rat.intCast_add] at ns
  rw [Rat.intCast_sub] at nd
  rw [Rat.intCast_mul] at nm
  have ba := int_bd ia
  have bb := int_bd ib
  have a1 := add_toR ba bb (by omega)
  have s1 := sub_toR ba bb (by omega)
  have m1 := mul_toR ba bb (by omega)
  have k1 := cmp_toR ba bb (by omega)
  have z1 := szE ba (by omega)
  have z2 := szE bb (by omega)
  have q1 := eqT ((a : Rat) + (b : Rat)) ((a : Rat) + (b : Rat))
  have q2 := eqT ((a : Rat) - (b : Rat)) ((a : Rat) - (b : Rat))
  have q3 := eqT ((a : Rat) * (b : Rat)) ((a : Rat) * (b : Rat))
  have l1 := cmpQ_int_lt a b
  have l2 := cmpQ_int_gt a b
  by_cases h0 : b = 0
  · have n0 : (newR a b).snd = 71 := by rw [h0]; rfl
    have hb0 : (b == 0) = true := by rw [h0]; rfl
    simp only [wa, wb, ws, wd, wm, ia, ib, is, id', im, i1, na, nb, ns, nd, nm, a1, s1, m1, k1, z1, z2, q1, q2, q3, l1, l2, n0, hb0, decide_true, Bool.and_self, cond_true, cond_false, Bool.not_true, Bool.not_false, beq_self_eq_true, bne_self_eq_false, Bool.true_and, Bool.and_true, beqB, eq_self]
  · have hb0 : (b == 0) = false := by simpa using h0
    have hq0 : (b : Rat) ≠ 0 := fun h => h0 (Rat.intCast_eq_zero_iff.1 h)
    have nq := new_toR ia ib h0
    have d1 := div_toR ba bb (by omega) hq0
    have q4 := eqT ((a : Rat) / (b : Rat)) ((a : Rat) / (b : Rat))
    have hdec : (decide (IntKind.i64 = IntKind.i64) && !decide (b = 0)) = true := by simp [h0]
    by_cases hs : b < 0
    · have hn : 0 < -b := by omega
      obtain ⟨bq, f1, g1⟩ := quo_facts (m := -a) hn (by omega) (by omega) (by omega)
      rw [← neg_div] at bq f1 g1
      have z3 := szE bq (by omega)
      obtain ⟨e1, e2, e3⟩ := bounds_div (-a) (-b) hn
      obtain ⟨u1, u2⟩ := div_small (m := -a) hn (by omega) (by omega)
      obtain ⟨v1, v2⟩ := div_small (m := -(-a)) hn (by omega) (by omega)
      have ht : (-a).tmod (-b) = 0 ↔ a.tmod b = 0 := by rw [Int.tmod_neg, Int.neg_tmod]; omega
      have p1 := prod_small (a := -a / -b) (b := -b) (by omega) (by omega) (by omega) (by omega)
      have p2 := prod_small (a := -(- -a / -b)) (b := -b) (by omega) (by omega) (by omega) (by omega)
      have w1 : IntKind.i64.wrap (0 - a) = -a := by rw [wrapI (by omega) (by omega)]; omega
      have w2 : IntKind.i64.wrap (0 - b) = -b := by rw [wrapI (by omega) (by omega)]; omega
      have w3 : IntKind.i64.wrap (-(- -a / -b) - -a / -b) = -(- -a / -b) - -a / -b := wrapI (by omega) (by omega)
      have w4 : IntKind.i64.wrap (-a / -b * -b) = -a / -b * -b := wrapI (by omega) (by omega)
      have w5 : IntKind.i64.wrap (-(- -a / -b) * -b) = -(- -a / -b) * -b := wrapI (by omega) (by omega)
      have y1 : (!(-(- -a / -b) - -a / -b == 0) == (a.tmod b == 0)) = false := by
        rw [e1]
        by_cases ht2 : a.tmod b = 0
        · rw [if_pos (ht.2 ht2), ht2]; rfl
        · rw [if_neg (fun h => ht2 (ht.1 h))]
          simp [ht2]
      have y2 : decide (-(- -a / -b) - -a / -b < 0) = false := decide_eq_false (by rw [e1]; split <;> omega)
      have y3 : decide (-(- -a / -b) - -a / -b > 1) = false := decide_eq_false (by rw [e1]; split <;> omega)
      simp only [wa, wb, ws, wd, wm, ia, ib, is, id', im, i1, na, nb, ns, nd, nm, a1, s1, m1, k1, z1, z2, q1, q2, q3, l1, l2, hb0, decide_eq_false h0, nq, d1, z3, f1, g1, q4, hdec, w1, w2, w3, w4, w5, y1, y2, y3, decide_eq_true e2, decide_eq_true e3, decide_eq_true hs,
        decide_true, Bool.and_self, cond_true, cond_false, Bool.not_true, Bool.not_false, beq_self_eq_true, bne_self_eq_false, Bool.true_and, Bool.and_true, beqB, eq_self]
    · have hn : 0 < b := by omega
      obtain ⟨bq, f1, g1⟩ := quo_facts (m := a) hn (by omega) (by omega) (by omega)
      have z3 := szE bq (by omega)
      obtain ⟨e1, e2, e3⟩ := bounds_div a b hn
      obtain ⟨u1, u2⟩ := div_small (m := a) hn (by omega) (by omega)
      obtain ⟨v1, v2⟩ := div_small (m := -a) hn (by omega) (by omega)
      have p1 := prod_small (a := a / b) (b := b) (by omega) (by omega) (by omega) (by omega)
      have p2 := prod_small (a := -(-a / b)) (b := b) (by omega) (by omega) (by omega) (by omega)
      have w3 : IntKind.i64.wrap (-(-a / b) - a / b) = -(-a / b) - a / b := wrapI (by omega) (by omega)
      have w4 : IntKind.i64.wrap (a / b * b) = a / b * b := wrapI (by omega) (by omega)
      have w5 : IntKind.i64.wrap (-(-a / b) * b) = -(-a / b) * b := wrapI (by omega) (by omega)
      have y1 : (!(-(-a / b) - a / b == 0) == (a.tmod b == 0)) = false := by
        rw [e1]
        by_cases ht2 : a.tmod b = 0
        · rw [if_pos ht2, ht2]; rfl
        · rw [if_neg ht2]
          simp [ht2]
      have y2 : decide (-(-a / b) - a / b < 0) = false := decide_eq_false (by rw [e1]; split <;> omega)
      have y3 : decide (-(-a / b) - a / b > 1) = false := decide_eq_false (by rw [e1]; split <;> omega)
      simp only [wa, wb, ws, wd, wm, ia, ib, is, id', im, i1, na, nb, ns, nd, nm, a1, s1, m1, k1, z1, z2, q1, q2, q3, l1, l2, hb0, decide_eq_false h0, nq, d1, z3, f1, g1, q4, hdec, w3, w4, w5, y1, y2, y3, decide_eq_true e2, decide_eq_true e3, decide_eq_false hs,
        decide_true, Bool.and_self, cond_true, cond_false, Bool.not_true, Bool.not_false, beq_self_eq_true, bne_self_eq_false, Bool.true_and, Bool.and_true, beqB, eq_self]
theorem ratiosInts_walk (a b : Int) (ha : -2147483648 ≤ a) (ha2 : a ≤ 2147483647) (hb : -2147483648 ≤ b) (hb2 : b ≤ 2147483647) :
    Plain Try.prog 7 [.int .i32 a, .int .i32 b] (.returned (.bool true)) := plain_sound pOk (ECon.ok lawCon_ok) 60 (ints_end a b ha ha2 hb hb2)

end Go.Proofs.Ytieapjdabffjcaa
