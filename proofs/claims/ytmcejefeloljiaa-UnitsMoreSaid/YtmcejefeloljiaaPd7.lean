/-
  Units: the law of a further unit.
-/
import Derived.Test.YtmcejefeloljiaaPd6
namespace Go.Proofs.Ytmcejefeloljiaa
set_option linter.unusedSimpArgs false
set_option linter.unusedVariables false
open Go.RowKit Nm Go.SX

theorem findF_ext {n : ByteArray} {l m : List unitT.den} {z : Int} (h : findF n l = z) (h0 : 0 ≤ z) : findF n (l ++ m) = z := by
  unfold findF at h ⊢
  cases hf : findO n l 0 with
  | none => rw [hf] at h; simp only at h; omega
  | some j => rw [hf] at h; rw [findO_ext hf]; exact h
theorem findO_low {n : ByteArray} : ∀ {l m : List unitT.den} {k j : Nat}, findO n (l ++ m) k = some j → j < k + l.length → findO n l k = some j
  | [], m, k, j, h, hj => by
    have := (findO_some h).1
    simp only [List.length_nil] at hj
    omega
  | u :: l, m, k, j, h, hj => by
    rw [List.cons_append, findO_cons] at h
    rw [findO_cons]
    revert h
    cases eqN u.1 n with
    | true => exact id
    | false => exact fun h => findO_low h (by simp only [List.length_cons] at hj; omega)
theorem findF_low {n : ByteArray} {l m : List unitT.den} {j : Nat} (h : findF n (l ++ m) = j) (hj : j < l.length) : findF n l = j := by
  unfold findF at h ⊢
  cases hf : findO n (l ++ m) 0 with
  | none => rw [hf] at h; simp only at h; omega
  | some i =>
    rw [hf] at h
    simp only at h
    have : i = j := by omega
    subst this
    rw [findO_low hf (by omega)]
/-- what is resolved without the further unit -/
theorem Res.prefix {l y : List unitT.den} {u : unitT.den} (h : Res (l ++ [u]) y) : Res l (y.take l.length) := by
  have hlen : y.length = l.length + 1 := by rw [h.len]; simp
  have hf := h.few
  refine ⟨by simp at hf; omega, fun i hi => ?_, by rw [List.length_take]; omega, fun i hi hi' => ?_⟩
  · have := h.once i (by simp; omega)
    rw [List.getElem_append_left hi] at this
    exact findF_low this hi
  · have h1 := h.step i (by simp; omega) (by omega)
    rw [List.getElem_append_left hi] at h1
    have e : (y.take l.length).take i = y.take i := by rw [List.take_take, Nat.min_eq_left (by omega)]
    rw [e, List.getElem_take]
    rcases stepU_cases h1 with ⟨a1, a2, a3, a4⟩ | ⟨a0, a1, a2, a3, a4, j, a5, a6, a7, a8, a9⟩
    · rw [a4]
      unfold stepU
      rw [show eqN l[i].2.1 (bs []) = true from decide_eq_true a1, a2, a3]
      rfl
    · have a5' := findF_low a5 (by omega)
      rw [a9]
      unfold stepU
      rw [show eqN l[i].2.1 (bs []) = false from decide_eq_false a0, a5']
      have b1 : inM l[i].2.2.1 = true := by unfold inM; rw [decide_eq_true a1, decide_eq_true a2]; rfl
      have b2 : inM l[i].2.2.2.1 = true := by unfold inM; rw [decide_eq_true a3, decide_eq_true a4]; rfl
      rw [b1, b2, decide_eq_false (by omega : ¬ ((j : Nat) : Int) < 0), decide_eq_false (by omega : ¬ ((j : Nat) : Int) ≥ (i : Nat)), a7]
      simp only [Int.toNat_natCast, a8, bne_self_eq_false, Bool.and_self, Bool.or_self, cond_true, cond_false]
theorem Res.det {l x y : List unitT.den} (h : Res l x) (k : Res l y) : x = y := by
  have h1 := resolve_iff.2 h
  have h2 := resolve_iff.2 k
  rw [h1] at h2
  exact (Prod.mk.injEq .. ▸ h2 : x = y ∧ _).1
theorem outB_take {y : List unitT.den} {n : Nat} {a : Int} (hn : n ≤ y.length) (h : a < n) : outB (y.take n) a = outB y a := by
  unfold outB
  rw [List.length_take, Nat.min_eq_left hn, decide_eq_false (by omega : ¬ a ≥ (n : Int)), decide_eq_false (by omega : ¬ a ≥ (y.length : Int))]
theorem atU_take {y : List unitT.den} {n : Nat} {a : Int} (h : a < n) (h0 : 0 ≤ a) : atU (y.take n) a = atU y a := by
  unfold atU
  rw [List.getD_eq_getElem?_getD, List.getD_eq_getElem?_getD, List.getElem?_take_of_lt (by omega)]
theorem conv_take {l m x y : List unitT.den} (hx : Res l x) (hy : Res m y) {n : Nat} (hn : n ≤ y.length) (e : x = y.take n) {a b : Int} (ha : a < n) (hb : b < n) (r : Rt) : convF x a b r = convF y a b r := by
  unfold convF
  rw [hx.check, hy.check, e, outB_take hn ha, outB_take hn hb]
  cases h1 : outB y a with
  | true => simp
  | false =>
    cases h2 : outB y b with
    | true => simp
    | false =>
      have a0 : 0 ≤ a := by obtain ⟨_, _, h⟩ := atU_get h1; omega
      have b0 : 0 ≤ b := by obtain ⟨_, _, h⟩ := atU_get h2; omega
      rw [atU_take ha a0, atU_take hb b0]
theorem more_end (l : List unitT.den) (u : unitT.den) (a b : Int) (r : ratT.den) (hl : Wf (.sl unitT) l) (hu : Wf unitT u) (hr : Wf ratT r) :
    sxE Try.prog noL yCon 60 7 [.dsl unitT l, svT unitT u, .val (.int .i64 a), .val (.int .i64 b), svT ratT r] = some (.ret (.val (.bool true))) := by
  rw [T_umore]
  have h1 := wfT_iff.2 hl
  have h2 := wfT_iff.2 (resolve_wf hl)
  have h3 : (szB r.2.1 && szB r.2.2.1) = true := by rw [szB_iff.2 hr.2.1, szB_iff.2 hr.2.2.1]; rfl
  simp only [h1, h2, h3, cond_true, Bool.and_self, List.nil_append, List.length_nil, List.length_singleton, Nat.zero_add]
  cases hf : fewU l with
  | false => rfl
  | true =>
  have hlen : l.length ≤ 8 := (fewU_iff.1 hf).1
  have hm : (40 : Nat) ≤ maxLen := by decide
  have hw : Wf (.sl unitT) (l ++ [u]) := ⟨by simp; omega, fun i x hx => by
    have hx' : (l ++ [u])[i]? = some x := hx
    rw [List.getElem?_append] at hx'
    split at hx'
    · exact hl.2 i x hx'
    · rw [List.getElem?_singleton] at hx'
      split at hx'
      · cases hx'; exact hu
      · cases hx'⟩
  have h4 := wfT_iff.2 hw
  have h5 := wfT_iff.2 (resolve_wf hw)
  have h6 : decide (l.length ≤ 1048576) = true := decide_eq_true (by omega)
  have h7 : decide (l.length + 1 ≤ 1048576) = true := decide_eq_true (by omega)
  simp only [Bool.not_true, cond_false, h4, h5, h6, h7, cond_true]
  cases s1 : decide (((ByteArray.size r.2.1 : Nat) : Int) > 40) with
  | true => rfl
  | false =>
  cases s2 : decide (((ByteArray.size r.2.2.1 : Nat) : Int) > 40) with
  | true => rfl
  | false =>
  cases h8 : (resolveF l).2 == 0 with
  | false => rfl
  | true =>
  cases s3 : decide ((l.length : Int) ≥ 8) with
  | true => rfl
  | false =>
  cases s4 : decide (((ByteArray.size u.2.2.2.2.2.1.2.1 : Nat) : Int) > 40) with
  | true => rfl
  | false =>
  cases s5 : decide (((ByteArray.size u.2.2.2.2.2.1.2.2.1 : Nat) : Int) > 40) with
  | true => rfl
  | false =>
  simp only [cond_false, Bool.not_true]
  have hR := res_of (eq_of_beq h8)
  rcases res_or (l ++ [u]) with ⟨g1, g2⟩ | ⟨g1, g2⟩
  · have g3 : ((resolveF (l ++ [u])).2 != 0) = true := by simpa using g1
    simp only [g3, g2, cond_true, List.length_nil]
    rfl
  · have hp : (resolveF l).1 = (resolveF (l ++ [u])).1.take l.length := hR.det g2.prefix
    have hyl : (resolveF (l ++ [u])).1.length = l.length + 1 := by rw [g2.len]; simp
    have hxl : (resolveF l).1.length = l.length := hR.len
    have g3 : ((resolveF (l ++ [u])).2 != 0) = false := by rw [g1]; rfl
    have w1 : IntKind.i64.wrap ((l.length : Int) + 1) = ((l.length + 1 : Nat) : Int) := wrapN (by omega)
    have g4 : decide (0 ≤ (l.length : Int)) = true := decide_eq_true (by omega)
    have g5 : decide (l.length ≤ l.length + 1) = true := decide_eq_true (by omega)
    have g6 : wfT (.sl unitT) ((resolveF (l ++ [u])).1.take l.length) = true := by rw [← hp]; exact h2
    simp only [g3, hyl, hxl, w1, bne_self_eq_false, cond_false, Int.toNat_natCast, g4, g5, g6, Bool.and_self, cond_true, ← hp, eqLU_rfl, Bool.not_true, h2]
    cases t1 : decide (a ≥ (l.length : Int)) with
    | true => rfl
    | false =>
      cases t2 : decide (b ≥ (l.length : Int)) with
      | true => rfl
      | false =>
        have ha : a < (l.length : Int) := Int.not_le.1 (of_decide_eq_false t1)
        have hb : b < (l.length : Int) := Int.not_le.1 (of_decide_eq_false t2)
        have e := conv_take hR g2 (n := l.length) (by omega) hp ha hb ⟨r.1, r.2.1, r.2.2.1⟩
        have bb : ∀ s : ByteArray, (s == s) = true := fun s => by rw [beqB]; exact decide_eq_true rfl
        simp only [cond_false, ← e, bb, beq_self_eq_true, Bool.and_self, cond_true]
theorem unitsMore_law (l : List unitT.den) (u : unitT.den) (a b : Int) (r : ratT.den) (hl : Wf (.sl unitT) l) (hu : Wf unitT u) (_ : Wf (.int .i64) a) (_ : Wf (.int .i64) b) (hr : Wf ratT r) :
    DPlain Try.prog 7 [svA false (.sl unitT) l, svA true unitT u, svA false (.int .i64) a, svA false (.int .i64) b, svA true ratT r] (.ret (.val (.bool true))) :=
  (sxE_sound pOk yCon_ok noL_ok 60 (more_end l u a b r hl hu hr)).2
end Go.Proofs.Ytmcejefeloljiaa

