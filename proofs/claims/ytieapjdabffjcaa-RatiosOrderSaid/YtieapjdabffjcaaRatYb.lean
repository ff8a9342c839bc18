/-
  The law of Floor and Ceil.
-/
import Derived.Test.YtieapjdabffjcaaRatX
import Derived.Test.YtieapjdabffjcaaRatT_round
namespace Go.Proofs.Ytieapjdabffjcaa
set_option linter.unusedSimpArgs false
set_option linter.unusedVariables false
open Go.RowKit Nm Go.SX

theorem bd_of' {q : Rat} (h1 : (((toR q).n.size : Nat) : Int) ≤ 20) (h2 : (((toR q).d.size : Nat) : Int) ≤ 20) : Bd q 20 := Bd.of_size (by omega) (by omega)
set_option maxHeartbeats 4000000 in
theorem round_core (q : Rat) (hq : Bd q 20) (h1 : decide ((((toR q).n.size : Nat) : Int) ≤ 20) = true) (h2 : decide ((((toR q).d.size : Nat) : Int) ≤ 20) = true) :
    sxEnd Try.prog Rd.no lawCon.p 60 8 [.agg #[.bool (toR q).neg, .string (toR q).n, .string (toR q).d]] = some (.returned (.bool true)) := by
  rw [T_round]
  have c1 := check_toR hq (by omega)
  have z1 := szE hq (by omega)
  have e0 : (0 : Rat) - q = -q := by grind
  have s1 := sub_toR bd_zero hq (by omega)
  rw [e0] at s1
  have z2 := szE (neg_bd hq) (by omega)
  have f1 := floor_toR hq (by omega)
  have g1 := ceil_toR (neg_bd hq) (by omega)
  rw [Rat.neg_neg] at g1
  by_cases hl : -4611686018427387904 ≤ q.floor ∧ q.floor ≤ 4611686018427387904
  · have fl : limQ q.floor = (q.floor, 0) := if_pos hl
    rw [fl] at f1 g1
    have i1 : inI q.floor = true := by
      unfold inI
      rw [Bool.and_eq_true, decide_eq_true_eq, decide_eq_true_eq]
      omega
    have i2 : inI 1 = true := rfl
    have n1 := new_toR i1 i2 (by omega)
    have e1 : (q.floor : Rat) / ((1 : Int) : Rat) = (q.floor : Rat) := by grind
    rw [e1] at n1
    have bf := int_bd i1
    have bf1 := add_bd bf bd_one (by omega)
    have a1 := add_toR bf bd_one (by omega)
    have z3 := szE bf (by omega)
    have z4 := szE bf1 (by omega)
    have k1 := cmp_toR bf hq (by omega)
    have k2 := cmp_toR hq bf1 (by omega)
    have l1 : decide (cmpQ (q.floor : Rat) q ≤ 0) = true := by
      have := Rat.floor_le q
      unfold cmpQ
      split
      · rfl
      · rename_i h
        rw [if_pos (Rat.lt_of_le_of_ne this h)]
        rfl
    have l2 : decide (cmpQ q ((q.floor : Rat) + 1) < 0) = true := by
      have h3 := Rat.lt_floor_add_one q
      have h4 : ((q.floor + 1 : Int) : Rat) = (q.floor : Rat) + 1 := by simp
      rw [h4] at h3
      unfold cmpQ
      rw [if_neg (Rat.ne_of_lt h3), if_pos h3]
      rfl
    have w : IntKind.i64.wrap (0 - q.floor) = -q.floor := by
      rw [wrapI (by omega) (by omega)]
      omega
    simp only [toR_zero', toR_one', c1, z1, s1, z2, f1, g1, i1, i2, n1, a1, z3, z4, k1, k2, l1, l2, w, h1, h2, sz_nil, sz_one, Bool.and_self, cond_true, cond_false, bne_self_eq_false, beq_self_eq_true, Bool.not_true]
  · have fl : limQ q.floor = (0, 2) := if_neg hl
    rw [fl] at f1 g1
    simp only [toR_zero', toR_one', c1, z1, s1, z2, f1, g1, h1, h2, sz_nil, sz_one, Bool.and_self, cond_true, cond_false, bne_self_eq_false, beq_self_eq_true, Bool.not_true]
    rfl
theorem nez' {x : Rt} (h : ¬ checkR x = 0) : (checkR x != 0) = true := by simpa using h
theorem eqz' {x : Rt} (h : checkR x = 0) : (checkR x != 0) = false := by rw [h]; rfl
theorem round_end (x : Rt) (hx : (szB x.n && szB x.d) = true) :
    sxEnd Try.prog Rd.no lawCon.p 60 8 [rtV x] = some (.returned (.bool true)) := by
  unfold rtV
  by_cases c1 : checkR x = 0
  · cases h1 : decide (((x.n.size : Nat) : Int) ≤ 20)
    · rw [T_round, hx, eqz' c1, h1]; rfl
    · cases h2 : decide (((x.d.size : Nat) : Int) ≤ 20)
      · rw [T_round, hx, eqz' c1, h1, h2]; rfl
      · obtain ⟨p, rfl, _⟩ := valid_toR c1
        exact round_core p (bd_of' (of_decide_eq_true h1) (of_decide_eq_true h2)) h1 h2
  · rw [T_round, hx, nez' c1]; rfl
theorem ratiosRound_walk (x : Rt) (hx : (szB x.n && szB x.d) = true) :
    Plain Try.prog 8 [rtV x] (.returned (.bool true)) := plain_sound pOk (ECon.ok lawCon_ok) 60 (round_end x hx)

end Go.Proofs.Ytieapjdabffjcaa
