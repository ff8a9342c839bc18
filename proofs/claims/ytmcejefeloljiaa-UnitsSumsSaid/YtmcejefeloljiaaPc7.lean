/-
  Units: the law of sums.
-/
import Derived.Test.YtmcejefeloljiaaPc6
namespace Go.Proofs.Ytmcejefeloljiaa
set_option linter.unusedSimpArgs false
set_option linter.unusedVariables false
open Go.RowKit Nm Go.SX

theorem cmpQ_scale {q s u v : Rat} (hu : 0 < u) (hv : 0 < v) : cmpQ (q * u / v) (s * u / v) = cmpQ q s := by
  have hc : 0 < u * v⁻¹ := Rat.mul_pos hu (Rat.inv_pos.2 hv)
  have e1 : q * u / v = q * (u * v⁻¹) := by rw [Rat.div_def, Rat.mul_assoc]
  have e2 : s * u / v = s * (u * v⁻¹) := by rw [Rat.div_def, Rat.mul_assoc]
  rw [e1, e2]
  generalize u * v⁻¹ = c at hc
  have l1 : q * c < s * c ↔ q < s := Rat.mul_lt_mul_right hc
  have l2 : q * c = s * c ↔ q = s := by
    constructor
    · intro h
      have hc0 : c ≠ 0 := fun e => by rw [e] at hc; exact absurd hc (by decide)
      grind
    · intro h; rw [h]
  unfold cmpQ
  simp only [l1, l2]
theorem sums_end (l : List unitT.den) (a b : Int) (r s : ratT.den) (hl : Wf (.sl unitT) l) (hr : Wf ratT r) (hs : Wf ratT s) :
    sxE Try.prog noL yCon 60 8 [.dsl unitT l, .val (.int .i64 a), .val (.int .i64 b), svT ratT r, svT ratT s] = some (.ret (.val (.bool true))) := by
  rw [T_usums]
  have h1 := wfT_iff.2 hl
  have h2 := wfT_iff.2 (resolve_wf hl)
  have h3 : (szB r.2.1 && szB r.2.2.1) = true := by rw [szB_iff.2 hr.2.1, szB_iff.2 hr.2.2.1]; rfl
  have h3' : (szB s.2.1 && szB s.2.2.1) = true := by rw [szB_iff.2 hs.2.1, szB_iff.2 hs.2.2.1]; rfl
  have e : (⟨r.1, r.2.1, r.2.2.1⟩ : Rt) = toRt r := rfl
  have e' : (⟨s.1, s.2.1, s.2.2.1⟩ : Rt) = toRt s := rfl
  simp only [h1, h2, h3, h3', cond_true, e, e', Bool.and_self]
  cases hf : fewU l with
  | false => rfl
  | true =>
    simp only [Bool.not_true, cond_false]
    cases s1 : decide (((ByteArray.size r.2.1 : Nat) : Int) > 40) with
    | true => rfl
    | false =>
    cases s2 : decide (((ByteArray.size r.2.2.1 : Nat) : Int) > 40) with
    | true => rfl
    | false =>
    cases h4 : (resolveF l).2 == 0 with
    | false => rfl
    | true =>
    cases s3 : decide (((ByteArray.size s.2.1 : Nat) : Int) > 40) with
    | true => rfl
    | false =>
    cases s4 : decide (((ByteArray.size s.2.2.1 : Nat) : Int) > 40) with
    | true => rfl
    | false =>
    simp only [Bool.not_true, cond_false]
    have hR := res_of (eq_of_beq h4)
    generalize (resolveF l).1 = x at hR
    have h8 := few_len hf hR
    cases h5 : checkR (toRt r) != 0 with
    | true => rfl
    | false =>
    cases h6 : checkR (toRt s) != 0 with
    | true => rfl
    | false =>
    simp only [cond_false]
    obtain ⟨q, eq, hq⟩ := rat_of s1 s2 h5
    obtain ⟨t, et, ht⟩ := rat_of s3 s4 h6
    rw [eq, et]
    have bb : ∀ s : ByteArray, (s == s) = true := fun s => by rw [beqB]; exact decide_eq_true rfl
    cases hb : conB x a b with
    | true =>
      rw [conv_no hR _ hb, conv_no hR _ hb]
      rfl
    | false =>
      obtain ⟨u, v, eu, bu, gu, ev, bv, gv⟩ := conv_two hR h8 hb
      have nu : u ≠ 0 := fun e => by rw [e] at gu; exact absurd gu (by decide)
      have nv : v ≠ 0 := fun e => by rw [e] at gv; exact absurd gv (by decide)
      obtain ⟨c1, d1⟩ := conv_yes hR h8 hb hq (by omega) eu bu ev bv gv
      obtain ⟨c2, d2⟩ := conv_yes hR h8 hb ht (by omega) eu bu ev bv gv
      have a1 := add_toR hq ht (by omega)
      have a2 := add_toR d1 d2 (by omega)
      have d3 := add_bd hq ht (by omega)
      obtain ⟨c3, _⟩ := conv_yes hR h8 hb d3 (by omega) eu bu ev bv gv
      have r1 : (q + t) * u / v = q * u / v + t * u / v := by grind
      rw [r1] at c3
      have z1 := szE d1 (by omega)
      have z2 := szE d2 (by omega)
      have z3 := szE d3 (by omega)
      rw [a1, c1, c2, c3, a2, cmp_toR hq ht (by omega), cmp_toR d1 d2 (by omega), cmpQ_scale gu gv, z1, z2, z3]
      simp only [bne_self_eq_false, cond_false, cond_true, beq_self_eq_true, Bool.and_self, bb]
theorem unitsBack_law (l : List unitT.den) (a b c : Int) (r : ratT.den) (hl : Wf (.sl unitT) l) (_ : Wf (.int .i64) a) (_ : Wf (.int .i64) b) (_ : Wf (.int .i64) c) (hr : Wf ratT r) :
    DPlain Try.prog 6 [svA false (.sl unitT) l, svA false (.int .i64) a, svA false (.int .i64) b, svA false (.int .i64) c, svA true ratT r] (.ret (.val (.bool true))) :=
  (sxE_sound pOk yCon_ok noL_ok 60 (back_end l a b c r hl hr)).2
theorem unitsSums_law (l : List unitT.den) (a b : Int) (r s : ratT.den) (hl : Wf (.sl unitT) l) (_ : Wf (.int .i64) a) (_ : Wf (.int .i64) b) (hr : Wf ratT r) (hs : Wf ratT s) :
    DPlain Try.prog 8 [svA false (.sl unitT) l, svA false (.int .i64) a, svA false (.int .i64) b, svA true ratT r, svA true ratT s] (.ret (.val (.bool true))) :=
  (sxE_sound pOk yCon_ok noL_ok 60 (sums_end l a b r s hl hr hs)).2
end Go.Proofs.Ytmcejefeloljiaa

