/-
  What Compare, Floor, Ceil and New do to rational numbers.
-/
import Derived.Test.YtieapjdabffjcaaRatU
namespace Go.Proofs.Ytieapjdabffjcaa
open Go.RowKit Nm Go.SX

def cmpQ (p q : Rat) : Int := if p = q then 0 else if p < q then -1 else 1
theorem lessE {m n : Nat} (hm : Sm m) (hn : Sm n) : lessB (encS m) (encS n) = decide (m < n) := by
  unfold lessB
  rw [cmpE hm hn, decide_eq_decide]
  unfold cmpN
  split
  · simp; omega
  · split <;> simp <;> omega
theorem eq_iff_cross (p q : Rat) : p = q ↔ p.num * (q.den : Int) = q.num * (p.den : Int) := by
  constructor
  · rintro rfl; rfl
  · intro h
    apply Rat.le_antisymm
    · rw [Rat.le_iff]; omega
    · rw [Rat.le_iff]; omega
theorem cmp_toR {p q : Rat} {i j : Nat} (hp : Bd p i) (hq : Bd q j) (h : i + j ≤ 256) : cmpR (toR p) (toR q) = (cmpQ p q, 0) := by
  have hx : (enc (p.num.natAbs * q.den)).length ≤ i + j := enc_mul_le hp.1 hq.2
  have hy : (enc (q.num.natAbs * p.den)).length ≤ i + j := by
    have := enc_mul_le hq.1 hp.2
    omega
  unfold cmpR
  rw [check_toR hp (by omega), check_toR hq (by omega)]
  show (match timesO (encS p.num.natAbs) (encS q.den), timesO (encS q.num.natAbs) (encS p.den) with
    | some x, some y => (ordS (decide (p.num < 0)) (decide (q.num < 0)) x y, (0 : Int))
    | _, _ => (0, 2)) = _
  rw [timesE (hp.n (by omega)) (hq.d (by omega)) (Nat.le_trans hx h), timesE (hq.n (by omega)) (hp.d (by omega)) (Nat.le_trans hy h)]
  simp only
  congr 1
  unfold ordS cmpQ
  rw [lessE (Nat.le_trans hy h) (Nat.le_trans hx h), lessE (Nat.le_trans hx h) (Nat.le_trans hy h)]
  simp only [Rat.lt_iff, eq_iff_cross p q]
  have h1 : (p.num * (q.den : Int)).natAbs = p.num.natAbs * q.den := by rw [Int.natAbs_mul]; simp
  have h2 : (q.num * (p.den : Int)).natAbs = q.num.natAbs * p.den := by rw [Int.natAbs_mul]; simp
  rw [← h1, ← h2]
  have s1 : decide (p.num < 0) = decide (p.num * (q.den : Int) < 0) := by
    by_cases h0 : p.num * (q.den : Int) = 0
    · have : p.num = 0 := (Int.mul_eq_zero.1 h0).elim id fun e => absurd e (by have := q.den_nz; omega)
      rw [h0, this]
    · exact sn_mul p q.den_nz h0
  have s2 : decide (q.num < 0) = decide (q.num * (p.den : Int) < 0) := by
    by_cases h0 : q.num * (p.den : Int) = 0
    · have : q.num = 0 := (Int.mul_eq_zero.1 h0).elim id fun e => absurd e (by have := p.den_nz; omega)
      rw [h0, this]
    · exact sn_mul q p.den_nz h0
  rw [s1, s2]
  generalize p.num * (q.den : Int) = u
  generalize q.num * (p.den : Int) = v
  have e1 : encS u.natAbs = encS v.natAbs ↔ u.natAbs = v.natAbs := ⟨encS_inj, fun e => by rw [e]⟩
  simp only [e1, decide_eq_decide, decide_eq_true_eq, ne_eq, decide_eq_false_iff_not]
  by_cases c1 : u = v
  · rw [if_pos c1, if_pos (by omega)]
  · rw [if_neg c1, if_neg (by omega)]
    by_cases c2 : u < v
    · rw [if_pos c2, if_pos (by omega)]
    · rw [if_neg c2, if_neg (by omega)]

/-- a whole number, if it is not too great -/
def limQ (z : Int) : Int × Int := if -4611686018427387904 ≤ z ∧ z ≤ 4611686018427387904 then (z, 0) else (0, 2)
theorem floor_toR {q : Rat} {k : Nat} (h : Bd q k) (hk : k ≤ 256) : floorR (toR q) = limQ q.floor := by
  have hden : 0 < q.den := Nat.pos_of_ne_zero q.den_nz
  unfold floorR
  rw [check_toR h hk]
  have e1 : divF (toR q).n (toR q).d = (encS (q.num.natAbs / q.den), encS (q.num.natAbs % q.den), 0) := divE (h.n hk) (h.d hk) hden
  rw [e1]
  simp only [isE_encS]
  have e2 : intF (encS (q.num.natAbs / q.den)) = if (encS (q.num.natAbs / q.den)).size ≤ 8 ∧ q.num.natAbs / q.den < 9223372036854775808 then (((q.num.natAbs / q.den : Nat) : Int), true) else (0, false) := by
    unfold intF
    rw [isN_encS, nv_encS]
    simp
  have e3 : (encS (q.num.natAbs / q.den)).size ≤ 8 ↔ q.num.natAbs / q.den < 256 ^ 8 := encS_size_le _ _
  rw [e2, Rat.floor_def]
  have hneg : (toR q).neg = decide (q.num < 0) := rfl
  rw [hneg]
  have hF : q.num ≥ 0 → q.num / (q.den : Int) = ((q.num.natAbs / q.den : Nat) : Int) := fun hn => by
    rw [Int.natCast_ediv]
    congr 1
    omega
  have hG : q.num < 0 → q.num / (q.den : Int) = -(if q.num.natAbs % q.den = 0 then ((q.num.natAbs / q.den : Nat) : Int) else ((q.num.natAbs / q.den : Nat) : Int) + 1) := fun hn => by
    have h5 := Nat.div_add_mod q.num.natAbs q.den
    have h6 := Nat.mod_lt q.num.natAbs hden
    generalize q.num.natAbs / q.den = F at *
    generalize q.num.natAbs % q.den = R at *
    have h7 : q.num = -((q.den * F + R : Nat) : Int) := by omega
    rw [h7]
    split
    · rename_i h0
      subst h0
      rw [show -((q.den * F + 0 : Nat) : Int) = (q.den : Int) * (-(F : Int)) by push_cast; rw [Int.mul_neg]; omega]
      exact Int.mul_ediv_cancel_left _ (by omega)
    · rename_i h0
      have h8 : -((q.den * F + R : Nat) : Int) = ((q.den - R : Nat) : Int) + (q.den : Int) * (-((F : Int) + 1)) := by
        rw [Int.ofNat_sub (by omega)]
        push_cast
        rw [Int.mul_neg, Int.mul_add]
        omega
      rw [h8, Int.add_mul_ediv_left _ _ (by omega), Int.ediv_eq_zero_of_lt (by omega) (by omega)]
      omega
  generalize q.num.natAbs / q.den = F at *
  generalize q.num.natAbs % q.den = R at *
  unfold limQ
  rw [if_pos trivial]
  by_cases hn : q.num < 0
  · rw [hG hn]
    by_cases c1 : (encS F).size ≤ 8 ∧ F < 9223372036854775808
    · rw [if_pos c1]
      simp only [hn, decide_true]
      by_cases c2 : (F : Int) > 4611686018427387904
      · rw [if_pos (.inr c2), if_neg (by split <;> omega)]
      · rw [if_neg (by simp; omega), if_neg (by simp)]
        simp only [decide_eq_true_eq]
        have c4 : (0 : Int) ≤ (if R = 0 then (F : Int) else (F : Int) + 1) := by split <;> omega
        generalize (if R = 0 then (F : Int) else (F : Int) + 1) = u at *
        by_cases c3 : u > 4611686018427387904
        · rw [if_pos c3, if_neg (by omega)]
        · rw [if_neg c3, if_pos (by omega)]
    · rw [if_neg c1, if_pos (.inl rfl), if_neg (by rw [e3] at c1; split <;> omega)]
  · rw [hF (by omega)]
    by_cases c1 : (encS F).size ≤ 8 ∧ F < 9223372036854775808
    · rw [if_pos c1]
      simp only [hn, decide_false]
      by_cases c2 : (F : Int) > 4611686018427387904
      · rw [if_pos (.inr c2), if_neg (by omega)]
      · rw [if_neg (by simp; omega)]
        first
        | rw [if_pos rfl, if_pos (by omega)]
        | rw [if_pos trivial, if_pos (by omega)]
    · rw [if_neg c1, if_pos (.inl rfl), if_neg (by rw [e3] at c1; omega)]
theorem ceil_toR {q : Rat} {k : Nat} (h : Bd q k) (hk : k ≤ 256) : ceilR (toR q) = (-(limQ (-q).floor).1, (limQ (-q).floor).2) := by
  unfold ceilR
  rw [check_toR h hk, neg_toR, floor_toR (neg_bd h) hk]
  rfl
theorem int_bd {n : Int} (h : inI n = true) : Bd (n : Rat) 8 := by
  unfold inI at h
  rw [Bool.and_eq_true, decide_eq_true_eq, decide_eq_true_eq] at h
  constructor
  · have : ((n : Rat).num) = n := Rat.num_intCast n
    rw [this, enc_length_le]
    omega
  · have : ((n : Rat).den) = 1 := Rat.den_intCast n
    rw [this, enc_length_le]
    omega
theorem new_toR {n d : Int} (hn : inI n = true) (hd : inI d = true) (h0 : d ≠ 0) : newR n d = (toR ((n : Rat) / (d : Rat)), 0) := by
  unfold newR
  rw [if_neg h0]
  have e1 : n.natAbs = (n * d.sign).natAbs := by rw [Int.natAbs_mul, Int.natAbs_sign_of_ne_zero h0]; simp
  have sn : Sn (decide (n < 0) != decide (d < 0)) (n * d.sign) := by
    have : decide (d < 0) = decide (d.sign < 0) := by
      rw [decide_eq_decide]
      by_cases hs : d < 0
      · rw [Int.sign_eq_neg_one_of_neg hs]; omega
      · rw [Int.sign_eq_one_of_pos (by omega)]; omega
    rw [this]
    exact sn_sign
  have s1 := sm_abs hn
  have s2 := sm_abs hd
  rw [e1] at s1 ⊢
  rw [over_toR (by omega) sn s1 s2]
  have key : mkRat (n * d.sign) d.natAbs = (n : Rat) / (d : Rat) := by
    rw [← Rat.divInt_eq_div]
    by_cases hs : d < 0
    · rw [Int.sign_eq_neg_one_of_neg hs]
      have : d = -(d.natAbs : Int) := by omega
      conv => rhs; rw [this]
      rw [Rat.divInt_neg', Rat.divInt_ofNat]
      congr 1
      omega
    · rw [Int.sign_eq_one_of_pos (by omega)]
      have : d = (d.natAbs : Int) := by omega
      conv => rhs; rw [this]
      rw [Rat.divInt_ofNat]
      congr 1
      omega
  rw [key]
  rfl
theorem toR_zero : (⟨false, bs [], bs [1]⟩ : Rt) = toR 0 := rfl
theorem toR_zero' : (⟨false, bs [], strOf [1]⟩ : Rt) = toR 0 := rfl
theorem toR_one' : (⟨false, strOf [1], strOf [1]⟩ : Rt) = toR 1 := rfl
theorem bd_zero : Bd 0 1 := ⟨by decide, by decide⟩
theorem bd_one : Bd 1 1 := ⟨by decide, by decide⟩

end Go.Proofs.Ytieapjdabffjcaa
