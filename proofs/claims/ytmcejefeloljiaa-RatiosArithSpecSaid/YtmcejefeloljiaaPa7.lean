/-
  What the functions of package ratios do to rational numbers.
-/
import Derived.Test.YtmcejefeloljiaaPa6
import Derived.OpenShut
import Derived.ShutString
import Derived.WalkKit
namespace Go.Proofs.Ytmcejefeloljiaa
open Go.RowKit Nm Go.SX

theorem sn_mul (p : Rat) {m : Nat} (hm : m ≠ 0) : Sn (decide (p.num < 0)) (p.num * m) := by
  intro _
  rw [decide_eq_decide]
  constructor
  · intro h
    exact Int.mul_neg_of_neg_of_pos h (by omega)
  · intro h
    by_cases h1 : p.num < 0
    · exact h1
    · have := Int.mul_nonneg (a := p.num) (b := (m : Int)) (by omega) (by omega)
      omega
theorem enc_mul_le {m n i j : Nat} (hm : (enc m).length ≤ i) (hn : (enc n).length ≤ j) : (enc (m * n)).length ≤ i + j := Nat.le_trans (enc_len_mul m n) (by omega)
theorem addO_toR {p q : Rat} {i j : Nat} (hp : Bd p i) (hq : Bd q j) (h : i + j + 1 ≤ 256) : addO (toR p) (toR q) = some (toR (p + q)) ∧ Bd (p + q) (i + j + 1) := by
  have hd : (enc (p.den * q.den)).length ≤ i + j := enc_mul_le hp.2 hq.2
  have hx : (enc (p.num.natAbs * q.den)).length ≤ i + j := enc_mul_le hp.1 hq.2
  have hy : (enc (q.num.natAbs * p.den)).length ≤ i + j := by
    have := enc_mul_le hq.1 hp.2
    omega
  have hs : (enc (p.num.natAbs * q.den + q.num.natAbs * p.den)).length ≤ i + j + 1 := enc_len_add _ _ _ hx hy
  have ex : (p.num * (q.den : Int)).natAbs = p.num.natAbs * q.den := by rw [Int.natAbs_mul]; simp
  have ey : (q.num * (p.den : Int)).natAbs = q.num.natAbs * p.den := by rw [Int.natAbs_mul]; simp
  obtain ⟨b, hb1, hb2⟩ := sadd_toR (sn_mul p q.den_nz) (sn_mul q p.den_nz) (by rw [ex, ey]; exact Nat.le_trans hs h)
  have hz : (enc (p.num * (q.den : Int) + q.num * (p.den : Int)).natAbs).length ≤ i + j + 1 := by
    refine Nat.le_trans (enc_len_mono ?_) hs
    rw [← ex, ← ey]
    exact Int.natAbs_add_le _ _
  have hnz : p.den * q.den ≠ 0 := Nat.mul_ne_zero p.den_nz q.den_nz
  have e : p + q = mkRat (p.num * (q.den : Int) + q.num * (p.den : Int)) (p.den * q.den) := by
    rw [Rat.add_def, Rat.normalize_eq_mkRat]
  refine ⟨?_, ?_⟩
  · unfold addO
    show (timesO (encS p.den) (encS q.den)).bind _ = _
    rw [timesE (hp.d (by omega)) (hq.d (by omega)) (Nat.le_trans hd (by omega))]
    show (timesO (encS p.num.natAbs) (encS q.den)).bind _ = _
    rw [timesE (hp.n (by omega)) (hq.d (by omega)) (Nat.le_trans hx (by omega))]
    show (timesO (encS q.num.natAbs) (encS p.den)).bind _ = _
    rw [timesE (hq.n (by omega)) (hp.d (by omega)) (Nat.le_trans hy (by omega))]
    show (saddO ⟨decide (p.num < 0), encS (p.num.natAbs * q.den)⟩ ⟨decide (q.num < 0), encS (q.num.natAbs * p.den)⟩).bind _ = _
    rw [← ex, ← ey, hb1]
    show overO ⟨b, encS _⟩ (encS (p.den * q.den)) = _
    rw [over_toR hnz hb2 (Nat.le_trans hz h) (Nat.le_trans hd (by omega)), e]
  · rw [e]
    exact mk_bd hnz hz (Nat.le_trans hd (by omega))
theorem add_toR {p q : Rat} {i j : Nat} (hp : Bd p i) (hq : Bd q j) (h : i + j + 1 ≤ 256) : addR (toR p) (toR q) = (toR (p + q), 0) := by
  unfold addR both
  rw [check_toR hp (by omega), check_toR hq (by omega), (addO_toR hp hq h).1]
  rfl
theorem add_bd {p q : Rat} {i j : Nat} (hp : Bd p i) (hq : Bd q j) (h : i + j + 1 ≤ 256) : Bd (p + q) (i + j + 1) := (addO_toR hp hq h).2
theorem neg_toR (q : Rat) : negR (toR q) = toR (-q) := by
  unfold negR toR
  simp only [isE_encS, Rat.neg_num, Rat.neg_den, Int.natAbs_neg]
  congr 1
  by_cases h : q.num < 0
  · have h2 : ¬ (-q.num < 0) := by omega
    rw [decide_eq_true h, decide_eq_false h2]; rfl
  · rw [decide_eq_false h]
    by_cases h0 : q.num = 0
    · rw [decide_eq_true (by omega), decide_eq_false (by omega)]; rfl
    · rw [decide_eq_false (by omega), decide_eq_true (by omega)]; rfl
theorem neg_bd {q : Rat} {k : Nat} (h : Bd q k) : Bd (-q) k := by
  unfold Bd
  rw [Rat.neg_num, Rat.neg_den, Int.natAbs_neg]
  exact h
theorem sub_toR {p q : Rat} {i j : Nat} (hp : Bd p i) (hq : Bd q j) (h : i + j + 1 ≤ 256) : subR (toR p) (toR q) = (toR (p - q), 0) := by
  unfold subR both
  rw [check_toR hp (by omega), check_toR hq (by omega), neg_toR, (addO_toR hp (neg_bd hq) h).1, ← Rat.sub_eq_add_neg]
  rfl
theorem sub_bd {p q : Rat} {i j : Nat} (hp : Bd p i) (hq : Bd q j) (h : i + j + 1 ≤ 256) : Bd (p - q) (i + j + 1) := by
  rw [Rat.sub_eq_add_neg]
  exact (addO_toR hp (neg_bd hq) h).2
theorem sn_sign {a b : Int} : Sn (decide (a < 0) != decide (b < 0)) (a * b) := by
  intro h0
  have ha : a ≠ 0 := fun e => h0 (by rw [e]; simp)
  have hb : b ≠ 0 := fun e => h0 (by rw [e]; simp)
  by_cases h1 : a < 0
  · by_cases h2 : b < 0
    · have := Int.mul_pos_of_neg_of_neg h1 h2
      simp [h1, h2]
      omega
    · have := Int.mul_neg_of_neg_of_pos h1 (show 0 < b by omega)
      simp [h1, h2, this]
  · by_cases h2 : b < 0
    · have := Int.mul_neg_of_pos_of_neg (show 0 < a by omega) h2
      simp [h1, h2, this]
    · have := Int.mul_pos (show 0 < a by omega) (show 0 < b by omega)
      simp [h1, h2]
      omega
theorem mul_toR {p q : Rat} {i j : Nat} (hp : Bd p i) (hq : Bd q j) (h : i + j ≤ 256) : mulR (toR p) (toR q) = (toR (p * q), 0) := by
  have hd : (enc (p.den * q.den)).length ≤ i + j := enc_mul_le hp.2 hq.2
  have hn : (enc (p.num.natAbs * q.num.natAbs)).length ≤ i + j := enc_mul_le hp.1 hq.1
  unfold mulR both
  rw [check_toR hp (by omega), check_toR hq (by omega)]
  unfold mulO
  show (resO ((timesO (encS p.num.natAbs) (encS q.num.natAbs)).bind _)) = _
  rw [timesE (hp.n (by omega)) (hq.n (by omega)) (Nat.le_trans hn h)]
  show (resO ((timesO (encS p.den) (encS q.den)).bind _)) = _
  rw [timesE (hp.d (by omega)) (hq.d (by omega)) (Nat.le_trans hd h)]
  show resO (overO ⟨decide (p.num < 0) != decide (q.num < 0), encS (p.num.natAbs * q.num.natAbs)⟩ (encS (p.den * q.den))) = _
  rw [← Int.natAbs_mul] at hn ⊢
  rw [over_toR (Nat.mul_ne_zero p.den_nz q.den_nz) sn_sign (Nat.le_trans hn h) (Nat.le_trans hd h), Rat.mul_def, Rat.normalize_eq_mkRat]
  rfl
theorem mul_bd {p q : Rat} {i j : Nat} (hp : Bd p i) (hq : Bd q j) : Bd (p * q) (i + j) := by
  rw [Rat.mul_def, Rat.normalize_eq_mkRat]
  refine mk_bd (Nat.mul_ne_zero p.den_nz q.den_nz) ?_ (enc_mul_le hp.2 hq.2)
  rw [Int.natAbs_mul]
  exact enc_mul_le hp.1 hq.1
theorem div_zero {p q : Rat} {i j : Nat} (hp : Bd p i) (hq : Bd q j) (h : i + j ≤ 256) (h0 : q = 0) : divR (toR p) (toR q) = (zR, 71) := by
  unfold divR both
  rw [check_toR hp (by omega), check_toR hq (by omega)]
  subst h0
  rfl
theorem div_toR {p q : Rat} {i j : Nat} (hp : Bd p i) (hq : Bd q j) (h : i + j ≤ 256) (h0 : q ≠ 0) : divR (toR p) (toR q) = (toR (p / q), 0) := by
  have hn : (enc (p.num.natAbs * q.den)).length ≤ i + j := enc_mul_le hp.1 hq.2
  have hd : (enc (p.den * q.num.natAbs)).length ≤ i + j := enc_mul_le hp.2 hq.1
  have hq0 : q.num ≠ 0 := fun e => h0 (Rat.num_eq_zero.1 e)
  unfold divR both
  rw [check_toR hp (by omega), check_toR hq (by omega)]
  have hz : isE (toR q).n = false := by
    unfold toR
    rw [isE_encS]
    exact decide_eq_false (by omega)
  rw [hz]
  unfold mulO
  show (resO ((timesO (encS p.num.natAbs) (encS q.den)).bind _)) = _
  rw [timesE (hp.n (by omega)) (hq.d (by omega)) (Nat.le_trans hn h)]
  show (resO ((timesO (encS p.den) (encS q.num.natAbs)).bind _)) = _
  rw [timesE (hp.d (by omega)) (hq.n (by omega)) (Nat.le_trans hd h)]
  show resO (overO ⟨decide (p.num < 0) != decide (q.num < 0), encS (p.num.natAbs * q.den)⟩ (encS (p.den * q.num.natAbs))) = _
  have hdz : p.den * q.num.natAbs ≠ 0 := Nat.mul_ne_zero p.den_nz (by omega)
  have e1 : p.num.natAbs * q.den = (p.num * (q.num.sign * q.den)).natAbs := by
    rw [Int.natAbs_mul, Int.natAbs_mul, Int.natAbs_sign_of_ne_zero hq0]
    simp
  have sn : Sn (decide (p.num < 0) != decide (q.num < 0)) (p.num * (q.num.sign * q.den)) := by
    have : decide (q.num < 0) = decide (q.num.sign * (q.den : Int) < 0) := by
      rw [decide_eq_decide]
      have hden : 0 < (q.den : Int) := by have := q.den_nz; omega
      by_cases hs : q.num < 0
      · rw [Int.sign_eq_neg_one_of_neg hs]
        constructor
        · intro _; omega
        · intro _; exact hs
      · rw [Int.sign_eq_one_of_pos (by omega)]
        constructor
        · intro h; omega
        · intro h; omega
    rw [this]
    exact sn_sign
  rw [e1] at hn ⊢
  rw [over_toR hdz sn (Nat.le_trans hn h) (Nat.le_trans hd h)]
  have key : mkRat (p.num * (q.num.sign * (q.den : Int))) (p.den * q.num.natAbs) = p / q := by
    have hr : p / q = mkRat (p / q).num (p / q).den := (Rat.mkRat_self _).symm
    have e2 : mkRat (p.num * (q.num.sign * (q.den : Int))) (p.den * q.num.natAbs) * q = p := by
      rw [← Rat.mkRat_self q, ← Rat.mkRat_self p]
      rw [Rat.mkRat_self q, Rat.mkRat_self p]
      conv => lhs; rhs; rw [← Rat.mkRat_self q]
      rw [Rat.mkRat_mul_mkRat]
      conv => rhs; rw [← Rat.mkRat_self p]
      rw [Rat.mkRat_eq_iff (Nat.mul_ne_zero hdz q.den_nz) p.den_nz]
      have hs : q.num.sign * q.num = (q.num.natAbs : Int) := by rw [Int.mul_comm, Int.mul_sign_self]
      push_cast
      have : p.num * (q.num.sign * (q.den : Int)) * q.num * (p.den : Int) = p.num * (q.den : Int) * (p.den : Int) * (q.num.sign * q.num) := by
        simp only [Int.mul_assoc, Int.mul_comm, Int.mul_left_comm]
      rw [this, hs]
      simp only [Int.mul_assoc, Int.mul_comm, Int.mul_left_comm]
    rw [Rat.div_def]
    calc mkRat (p.num * (q.num.sign * (q.den : Int))) (p.den * q.num.natAbs)
        = mkRat (p.num * (q.num.sign * (q.den : Int))) (p.den * q.num.natAbs) * (q * q⁻¹) := by rw [Rat.mul_inv_cancel q h0, Rat.mul_one]
      _ = mkRat (p.num * (q.num.sign * (q.den : Int))) (p.den * q.num.natAbs) * q * q⁻¹ := by rw [Rat.mul_assoc]
      _ = p * q⁻¹ := by rw [e2]
  rw [key]
  rfl

end Go.Proofs.Ytmcejefeloljiaa

/-
  What Compare, Floor, Ceil and New do to rational numbers.
-/
namespace Go.Proofs.Ytmcejefeloljiaa
open Go.RowKit Nm Go.SX

def cmpQ (p q : Rat) : Int := if p = q then 0 else if p < q then -1 else 1
theorem lessE {m n : Nat} (hm : Sm m) (hn : Sm n) : lessB (encS m) (encS n) = decide (m < n) := by
  unfold lessB
  rw [cmpE hm hn, decide_eq_decide]
  unfold cmpN
  split
  · simp; omega
  · split <;> simp <;> omega
theorem eq_iff_cross (p q : Rat) : p = q ↔ p.num * (q.den : Int) = q.num * (p.den : Int) := by
  constructor
  · rintro rfl; rfl
  · intro h
    apply Rat.le_antisymm
    · rw [Rat.le_iff]; omega
    · rw [Rat.le_iff]; omega
theorem cmp_toR {p q : Rat} {i j : Nat} (hp : Bd p i) (hq : Bd q j) (h : i + j ≤ 256) : cmpR (toR p) (toR q) = (cmpQ p q, 0) := by
  have hx : (enc (p.num.natAbs * q.den)).length ≤ i + j := enc_mul_le hp.1 hq.2
  have hy : (enc (q.num.natAbs * p.den)).length ≤ i + j := by
    have := enc_mul_le hq.1 hp.2
    omega
  unfold cmpR
  rw [check_toR hp (by omega), check_toR hq (by omega)]
  show (match timesO (encS p.num.natAbs) (encS q.den), timesO (encS q.num.natAbs) (encS p.den) with
    | some x, some y => (ordS (decide (p.num < 0)) (decide (q.num < 0)) x y, (0 : Int))
    | _, _ => (0, 2)) = _
  rw [timesE (hp.n (by omega)) (hq.d (by omega)) (Nat.le_trans hx h), timesE (hq.n (by omega)) (hp.d (by omega)) (Nat.le_trans hy h)]
  simp only
  congr 1
  unfold ordS cmpQ
  rw [lessE (Nat.le_trans hy h) (Nat.le_trans hx h), lessE (Nat.le_trans hx h) (Nat.le_trans hy h)]
  simp only [Rat.lt_iff, eq_iff_cross p q]
  have h1 : (p.num * (q.den : Int)).natAbs = p.num.natAbs * q.den := by rw [Int.natAbs_mul]; simp
  have h2 : (q.num * (p.den : Int)).natAbs = q.num.natAbs * p.den := by rw [Int.natAbs_mul]; simp
  rw [← h1, ← h2]
  have s1 : decide (p.num < 0) = decide (p.num * (q.den : Int) < 0) := by
    by_cases h0 : p.num * (q.den : Int) = 0
    · have : p.num = 0 := (Int.mul_eq_zero.1 h0).elim id fun e => absurd e (by have := q.den_nz; omega)
      rw [h0, this]
    · exact sn_mul p q.den_nz h0
  have s2 : decide (q.num < 0) = decide (q.num * (p.den : Int) < 0) := by
    by_cases h0 : q.num * (p.den : Int) = 0
    · have : q.num = 0 := (Int.mul_eq_zero.1 h0).elim id fun e => absurd e (by have := p.den_nz; omega)
      rw [h0, this]
    · exact sn_mul q p.den_nz h0
  rw [s1, s2]
  generalize p.num * (q.den : Int) = u
  generalize q.num * (p.den : Int) = v
  have e1 : encS u.natAbs = encS v.natAbs ↔ u.natAbs = v.natAbs := ⟨encS_inj, fun e => by rw [e]⟩
  simp only [e1, decide_eq_decide, decide_eq_true_eq, ne_eq, decide_eq_false_iff_not]
  by_cases c1 : u = v
  · rw [if_pos c1, if_pos (by omega)]
  · rw [if_neg c1, if_neg (by omega)]
    by_cases c2 : u < v
    · rw [if_pos c2, if_pos (by omega)]
    · rw [if_neg c2, if_neg (by omega)]

/-- a whole number, if it is not too great -/
def limQ (z : Int) : Int × Int := if -4611686018427387904 ≤ z ∧ z ≤ 4611686018427387904 then (z, 0) else (0, 2)
theorem floor_toR {q : Rat} {k : Nat} (h : Bd q k) (hk : k ≤ 256) : floorR (toR q) = limQ q.floor := by
  have hden : 0 < q.den := Nat.pos_of_ne_zero q.den_nz
  unfold floorR
  rw [check_toR h hk]
  have e1 : divF (toR q).n (toR q).d = (encS (q.num.natAbs / q.den), encS (q.num.natAbs % q.den), 0) := divE (h.n hk) (h.d hk) hden
  rw [e1]
  simp only [isE_encS]
  have e2 : intF (encS (q.num.natAbs / q.den)) = if (encS (q.num.natAbs / q.den)).size ≤ 8 ∧ q.num.natAbs / q.den < 9223372036854775808 then (((q.num.natAbs / q.den : Nat) : Int), true) else (0, false) := by
    unfold intF
    rw [isN_encS, nv_encS]
    simp
  have e3 : (encS (q.num.natAbs / q.den)).size ≤ 8 ↔ q.num.natAbs / q.den < 256 ^ 8 := encS_size_le _ _
  rw [e2, Rat.floor_def]
  have hneg : (toR q).neg = decide (q.num < 0) := rfl
  rw [hneg]
  have hF : q.num ≥ 0 → q.num / (q.den : Int) = ((q.num.natAbs / q.den : Nat) : Int) := fun hn => by
    rw [Int.natCast_ediv]
    congr 1
    omega
  have hG : q.num < 0 → q.num / (q.den : Int) = -(if q.num.natAbs % q.den = 0 then ((q.num.natAbs / q.den : Nat) : Int) else ((q.num.natAbs / q.den : Nat) : Int) + 1) := fun hn => by
    have h5 := Nat.div_add_mod q.num.natAbs q.den
    have h6 := Nat.mod_lt q.num.natAbs hden
    generalize q.num.natAbs / q.den = F at *
    generalize q.num.natAbs % q.den = R at *
    have h7 : q.num = -((q.den * F + R : Nat) : Int) := by omega
    rw [h7]
    split
    · rename_i h0
      subst h0
      rw [show -((q.den * F + 0 : Nat) : Int) = (q.den : Int) * (-(F : Int)) by push_cast; rw [Int.mul_neg]; omega]
      exact Int.mul_ediv_cancel_left _ (by omega)
    · rename_i h0
      have h8 : -((q.den * F + R : Nat) : Int) = ((q.den - R : Nat) : Int) + (q.den : Int) * (-((F : Int) + 1)) := by
        rw [Int.ofNat_sub (by omega)]
        push_cast
        rw [Int.mul_neg, Int.mul_add]
        omega
      rw [h8, Int.add_mul_ediv_left _ _ (by omega), Int.ediv_eq_zero_of_lt (by omega) (by omega)]
      omega
  generalize q.num.natAbs / q.den = F at *
  generalize q.num.natAbs % q.den = R at *
  unfold limQ
  rw [if_pos trivial]
  by_cases hn : q.num < 0
  · rw [hG hn]
    by_cases c1 : (encS F).size ≤ 8 ∧ F < 9223372036854775808
    · rw [if_pos c1]
      simp only [hn, decide_true]
      by_cases c2 : (F : Int) > 4611686018427387904
      · rw [if_pos (.inr c2), if_neg (by split <;> omega)]
      · rw [if_neg (by simp; omega), if_neg (by simp)]
        simp only [decide_eq_true_eq]
        have c4 : (0 : Int) ≤ (if R = 0 then (F : Int) else (F : Int) + 1) := by split <;> omega
        generalize (if R = 0 then (F : Int) else (F : Int) + 1) = u at *
        by_cases c3 : u > 4611686018427387904
        · rw [if_pos c3, if_neg (by omega)]
        · rw [if_neg c3, if_pos (by omega)]
    · rw [if_neg c1, if_pos (.inl rfl), if_neg (by rw [e3] at c1; split <;> omega)]
  · rw [hF (by omega)]
    by_cases c1 : (encS F).size ≤ 8 ∧ F < 9223372036854775808
    · rw [if_pos c1]
      simp only [hn, decide_false]
      by_cases c2 : (F : Int) > 4611686018427387904
      · rw [if_pos (.inr c2), if_neg (by omega)]
      · rw [if_neg (by simp; omega)]
        first
        | rw [if_pos rfl, if_pos (by omega)]
        | rw [if_pos trivial, if_pos (by omega)]
    · rw [if_neg c1, if_pos (.inl rfl), if_neg (by rw [e3] at c1; omega)]
theorem ceil_toR {q : Rat} {k : Nat} (h : Bd q k) (hk : k ≤ 256) : ceilR (toR q) = (-(limQ (-q).floor).1, (limQ (-q).floor).2) := by
  unfold ceilR
  rw [check_toR h hk, neg_toR, floor_toR (neg_bd h) hk]
  rfl
theorem int_bd {n : Int} (h : inI n = true) : Bd (n : Rat) 8 := by
  unfold inI at h
  rw [Bool.and_eq_true, decide_eq_true_eq, decide_eq_true_eq] at h
  constructor
  · have : ((n : Rat).num) = n := Rat.num_intCast n
    rw [this, enc_length_le]
    omega
  · have : ((n : Rat).den) = 1 := Rat.den_intCast n
    rw [this, enc_length_le]
    omega
theorem new_toR {n d : Int} (hn : inI n = true) (hd : inI d = true) (h0 : d ≠ 0) : newR n d = (toR ((n : Rat) / (d : Rat)), 0) := by
  unfold newR
  rw [if_neg h0]
  have e1 : n.natAbs = (n * d.sign).natAbs := by rw [Int.natAbs_mul, Int.natAbs_sign_of_ne_zero h0]; simp
  have sn : Sn (decide (n < 0) != decide (d < 0)) (n * d.sign) := by
    have : decide (d < 0) = decide (d.sign < 0) := by
      rw [decide_eq_decide]
      by_cases hs : d < 0
      · rw [Int.sign_eq_neg_one_of_neg hs]; omega
      · rw [Int.sign_eq_one_of_pos (by omega)]; omega
    rw [this]
    exact sn_sign
  have s1 := sm_abs hn
  have s2 := sm_abs hd
  rw [e1] at s1 ⊢
  rw [over_toR (by omega) sn s1 s2]
  have key : mkRat (n * d.sign) d.natAbs = (n : Rat) / (d : Rat) := by
    rw [← Rat.divInt_eq_div]
    by_cases hs : d < 0
    · rw [Int.sign_eq_neg_one_of_neg hs]
      have : d = -(d.natAbs : Int) := by omega
      conv => rhs; rw [this]
      rw [Rat.divInt_neg', Rat.divInt_ofNat]
      congr 1
      omega
    · rw [Int.sign_eq_one_of_pos (by omega)]
      have : d = (d.natAbs : Int) := by omega
      conv => rhs; rw [this]
      rw [Rat.divInt_ofNat]
      congr 1
      omega
  rw [key]
  rfl
theorem toR_zero : (⟨false, bs [], bs [1]⟩ : Rt) = toR 0 := rfl
theorem toR_zero' : (⟨false, bs [], strOf [1]⟩ : Rt) = toR 0 := rfl
theorem toR_one' : (⟨false, strOf [1], strOf [1]⟩ : Rt) = toR 1 := rfl
theorem bd_zero : Bd 0 1 := ⟨by decide, by decide⟩
theorem bd_one : Bd 1 1 := ⟨by decide, by decide⟩

end Go.Proofs.Ytmcejefeloljiaa

/-
  The reference for ratios does what package ratios does: Add, Mul, Div, Compare, Floor, New; their table.
-/
namespace Go.Proofs.Ytmcejefeloljiaa
set_option linter.unusedSimpArgs false
set_option linter.unusedVariables false
open Go.RowKit Nm Go.SX

theorem low_over {n : Bool} {A D : Nat} (hA : Sm A) (hD : Sm D) (h0 : D ≠ 0) : resO (overO ⟨n, encS A⟩ (encS D)) = (lowS n (encS A) (encS D), 0) := by
  rw [over_small hA hD]
  unfold lowS overR resO
  have hg : 0 < Nat.gcd A D := Nat.gcd_pos_of_pos_right _ (by omega)
  have sg : Sm (Nat.gcd A D) := hD.mono (Nat.gcd_le_right _ (by omega))
  rw [gcdE hA hD, isE_encS]
  simp only
  rw [divE hA sg hg, divE hD sg hg, isE_encS]
  by_cases hz : A = 0
  · subst hz
    rw [decide_eq_true rfl, if_pos rfl, Nat.gcd_zero_left, Nat.zero_div, Nat.div_self (by omega), decide_eq_true rfl]
    simp only [Bool.not_true, Bool.and_false]
    rfl
  · rw [decide_eq_false hz]
    have h1 : A / Nat.gcd A D ≠ 0 := by
      have h2 := Nat.div_pos (Nat.le_of_dvd (by omega) (Nat.gcd_dvd_left A D)) hg
      omega
    rw [decide_eq_false h1]
    simp
/-- a valid ratio is two numbers -/
theorem valid_parts {n : Bool} {a b : ByteArray} (h : checkR ⟨n, a, b⟩ = 0) : ∃ A D, a = encS A ∧ b = encS D ∧ Sm A ∧ Sm D ∧ D ≠ 0 := by
  obtain ⟨q, hq, bq⟩ := valid_toR h
  have h2 : a = encS q.num.natAbs := congrArg Rt.n hq
  have h3 : b = encS q.den := congrArg Rt.d hq
  exact ⟨_, _, h2, h3, bq.n (by omega), bq.d (by omega), q.den_nz⟩
theorem timesL {m n : Nat} (hm : Sm m) (hn : Sm n) (h : ¬ Sm (m * n)) : timesO (encS m) (encS n) = none := by
  unfold timesO mustO
  rw [mulL hm hn h]
  rfl
theorem plusE {m n : Nat} (hm : Sm m) (hn : Sm n) (h : Sm (m + n)) : plusO (encS m) (encS n) = some (encS (m + n)) := by
  unfold plusO mustO
  rw [addE hm hn h]
  rfl
theorem plusL {m n : Nat} (hm : Sm m) (hn : Sm n) (h : ¬ Sm (m + n)) : plusO (encS m) (encS n) = none := by
  unfold plusO mustO
  rw [addL hm hn h]
  rfl
theorem minusE {m n : Nat} (hm : Sm m) (hn : Sm n) (h : n ≤ m) : mustO (subF (encS m) (encS n)) = some (encS (m - n)) := by
  rw [subE hm hn h]
  rfl
theorem two_ne : ((2 : Int) != 0) = true := rfl
theorem zz : ((0 : Int) != 0) = false := rfl
theorem smz {n : Nat} (h : Sm n) : szB (encS n) = true := szB_iff.2 (encS_max h)
theorem bs0 : bs [] = (⟨#[]⟩ : ByteArray) := rfl
set_option maxHeartbeats 2000000 in
theorem radd_end (n m : Bool) (a b c d : ByteArray) (ha : szB a = true) (hb : szB b = true) (hc : szB c = true) (hd : szB d = true) :
    sxEnd Try.prog Rd.no r7aCon.p 40 25 [.agg #[.bool n, .string a, .string b], .agg #[.bool m, .string c, .string d]] = some (.returned (resV (addR ⟨n, a, b⟩ ⟨m, c, d⟩))) := by
  rw [T_radd]
  simp only [ha, hb, hc, hd, Bool.and_self, cond_true]
  unfold addR both
  by_cases h1 : checkR ⟨n, a, b⟩ = 0
  · by_cases h2 : checkR ⟨m, c, d⟩ = 0
    · rw [if_pos h1, if_pos h2]
      have h1' : (checkR ⟨n, a, b⟩ != 0) = false := by simpa using h1
      have h2' : (checkR ⟨m, c, d⟩ != 0) = false := by simpa using h2
      rw [h1', h2']
      obtain ⟨A, B, rfl, rfl, sA, sB, nB⟩ := valid_parts h1
      obtain ⟨C, D, rfl, rfl, sC, sD, nD⟩ := valid_parts h2
      clear h1 h2 h1' h2'
      unfold addO
      simp only
      by_cases k3 : Sm (B * D)
      · rw [timesE sB sD k3, mulE sB sD k3]
        by_cases k1 : Sm (A * D)
        · rw [timesE sA sD k1, mulE sA sD k1]
          by_cases k2 : Sm (C * B)
          · rw [timesE sC sB k2, mulE sC sB k2]
            have nBD : B * D ≠ 0 := Nat.mul_ne_zero nB nD
            simp only [Option.bind_some, smz k1, smz k2, smz k3, Bool.and_self, cond_true, cond_false, zz]
            unfold saddO
            by_cases hnm : n = m
            · subst hnm
              simp only [beq_self_eq_true, cond_true, if_true]
              by_cases k4 : Sm (A * D + C * B)
              · rw [plusE k1 k2 k4, addE k1 k2 k4]
                simp only [Option.map_some, Option.bind_some, low_over k4 k3 nBD, zz, smz k4, smz k3, Bool.and_self, cond_true, cond_false]
                rfl
              · rw [plusL k1 k2 k4, addL k1 k2 k4]
                rfl
            · have hb2 : (n == m) = false := by simpa using hnm
              rw [hb2]
              simp only [cond_false, if_neg hnm]
              rw [lessE k1 k2, cmpE k1 k2]
              by_cases hl : A * D < C * B
              · have e1 : decide (cmpN (A * D) (C * B) ≥ 0) = false := by rw [cmpN_lt hl]; rfl
                rw [decide_eq_true hl, if_pos rfl, minusE k2 k1 (by omega), subE k2 k1 (by omega)]
                have k4 : Sm (C * B - A * D) := k2.mono (by omega)
                simp only [e1, Option.map_some, Option.bind_some, low_over k4 k3 nBD, smz k4, smz k3, Bool.and_self, cond_true, cond_false]
                rfl
              · have e1 : decide (cmpN (A * D) (C * B) ≥ 0) = true := by
                  by_cases he : A * D = C * B
                  · rw [cmpN_eq he]; rfl
                  · rw [cmpN_gt (by omega)]; rfl
                rw [decide_eq_false hl, if_neg (by decide), minusE k1 k2 (by omega), subE k1 k2 (by omega)]
                have k4 : Sm (A * D - C * B) := k1.mono (by omega)
                simp only [e1, Option.map_some, Option.bind_some, low_over k4 k3 nBD, smz k4, smz k3, Bool.and_self, cond_true, cond_false]
                rfl
          · rw [timesL sC sB k2, mulL sC sB k2]
            rfl
        · rw [timesL sA sD k1, mulL sA sD k1]
          rfl
      · rw [timesL sB sD k3, mulL sB sD k3]
        simp only [two_ne, cond_true, cond_false]
        cases (mulF (encS A) (encS D)).2 != 0 <;> cases (mulF (encS C) (encS B)).2 != 0 <;> rfl
    · have h2' : (checkR ⟨m, c, d⟩ != 0) = true := by simpa using h2
      have h3 : checkR ⟨m, c, d⟩ = 70 := by unfold checkR at h2 ⊢; split at h2 <;> simp_all
      simp [h1, h2, h2', h3, resV, rtV, zR, bs]
  · have h1' : (checkR ⟨n, a, b⟩ != 0) = true := by simpa using h1
    have h3 : checkR ⟨n, a, b⟩ = 70 := by unfold checkR at h1 ⊢; split at h1 <;> simp_all
    simp [h1, h1', h3, resV, rtV, zR, bs]
set_option maxHeartbeats 2000000 in
theorem rmul_end (n m : Bool) (a b c d : ByteArray) (ha : szB a = true) (hb : szB b = true) (hc : szB c = true) (hd : szB d = true) :
    sxEnd Try.prog Rd.no r7aCon.p 40 29 [.agg #[.bool n, .string a, .string b], .agg #[.bool m, .string c, .string d]] = some (.returned (resV (mulR ⟨n, a, b⟩ ⟨m, c, d⟩))) := by
  rw [T_rmul]
  simp only [ha, hb, hc, hd, Bool.and_self, cond_true]
  unfold mulR both
  by_cases h1 : checkR ⟨n, a, b⟩ = 0
  · by_cases h2 : checkR ⟨m, c, d⟩ = 0
    · rw [if_pos h1, if_pos h2]
      have h1' : (checkR ⟨n, a, b⟩ != 0) = false := by simpa using h1
      have h2' : (checkR ⟨m, c, d⟩ != 0) = false := by simpa using h2
      rw [h1', h2']
      obtain ⟨A, B, rfl, rfl, sA, sB, nB⟩ := valid_parts h1
      obtain ⟨C, D, rfl, rfl, sC, sD, nD⟩ := valid_parts h2
      clear h1 h2 h1' h2'
      unfold mulO
      simp only
      by_cases k1 : Sm (A * C)
      · rw [timesE sA sC k1, mulE sA sC k1]
        by_cases k3 : Sm (B * D)
        · rw [timesE sB sD k3, mulE sB sD k3]
          have nBD : B * D ≠ 0 := Nat.mul_ne_zero nB nD
          have hx : (!(n == m)) = (n != m) := rfl
          simp only [hx, Option.bind_some, low_over k1 k3 nBD, smz k1, smz k3, Bool.and_self, cond_true, cond_false, zz]
          rfl
        · rw [timesL sB sD k3, mulL sB sD k3]
          rfl
      · rw [timesL sA sC k1, mulL sA sC k1]
        rfl
    · have h2' : (checkR ⟨m, c, d⟩ != 0) = true := by simpa using h2
      have h3 : checkR ⟨m, c, d⟩ = 70 := by unfold checkR at h2 ⊢; split at h2 <;> simp_all
      simp [h1, h2, h2', h3, resV, rtV, zR, bs]
  · have h1' : (checkR ⟨n, a, b⟩ != 0) = true := by simpa using h1
    have h3 : checkR ⟨n, a, b⟩ = 70 := by unfold checkR at h1 ⊢; split at h1 <;> simp_all
    simp [h1, h1', h3, resV, rtV, zR, bs]
set_option maxHeartbeats 2000000 in
theorem rdiv_end (n m : Bool) (a b c d : ByteArray) (ha : szB a = true) (hb : szB b = true) (hc : szB c = true) (hd : szB d = true) :
    sxEnd Try.prog Rd.no r7aCon.p 40 31 [.agg #[.bool n, .string a, .string b], .agg #[.bool m, .string c, .string d]] = some (.returned (resV (divR ⟨n, a, b⟩ ⟨m, c, d⟩))) := by
  rw [T_rdiv]
  simp only [ha, hb, hc, hd, Bool.and_self, cond_true, eqL, ← isE_bs]
  unfold divR both
  by_cases h1 : checkR ⟨n, a, b⟩ = 0
  · by_cases h2 : checkR ⟨m, c, d⟩ = 0
    · rw [if_pos h1, if_pos h2]
      have h1' : (checkR ⟨n, a, b⟩ != 0) = false := by simpa using h1
      have h2' : (checkR ⟨m, c, d⟩ != 0) = false := by simpa using h2
      rw [h1', h2']
      obtain ⟨A, B, rfl, rfl, sA, sB, nB⟩ := valid_parts h1
      obtain ⟨C, D, rfl, rfl, sC, sD, nD⟩ := valid_parts h2
      clear h1 h2 h1' h2'
      unfold mulO
      simp only [isE_encS]
      by_cases hC : C = 0
      · rw [decide_eq_true hC]
        rfl
      · rw [decide_eq_false hC]
        simp only [Bool.false_eq_true, if_false, cond_false]
        by_cases k1 : Sm (A * D)
        · rw [timesE sA sD k1, mulE sA sD k1]
          by_cases k3 : Sm (B * C)
          · rw [timesE sB sC k3, mulE sB sC k3]
            have nBD : B * C ≠ 0 := Nat.mul_ne_zero nB hC
            have hx : (!(n == m)) = (n != m) := rfl
            simp only [hx, Option.bind_some, low_over k1 k3 nBD, smz k1, smz k3, Bool.and_self, cond_true, cond_false, zz]
            rfl
          · rw [timesL sB sC k3, mulL sB sC k3]
            rfl
        · rw [timesL sA sD k1, mulL sA sD k1]
          rfl
    · have h2' : (checkR ⟨m, c, d⟩ != 0) = true := by simpa using h2
      have h3 : checkR ⟨m, c, d⟩ = 70 := by unfold checkR at h2 ⊢; split at h2 <;> simp_all
      simp [h1, h2, h2', h3, resV, rtV, zR, bs]
  · have h1' : (checkR ⟨n, a, b⟩ != 0) = true := by simpa using h1
    have h3 : checkR ⟨n, a, b⟩ = 70 := by unfold checkR at h1 ⊢; split at h1 <;> simp_all
    simp [h1, h1', h3, resV, rtV, zR, bs]
set_option maxHeartbeats 4000000 in
theorem rcmp_end (n m : Bool) (a b c d : ByteArray) (ha : szB a = true) (hb : szB b = true) (hc : szB c = true) (hd : szB d = true) :
    sxEnd Try.prog Rd.no r7aCon.p 40 33 [.agg #[.bool n, .string a, .string b], .agg #[.bool m, .string c, .string d]] = some (.returned (intV (cmpR ⟨n, a, b⟩ ⟨m, c, d⟩))) := by
  rw [T_rcmp]
  simp only [ha, hb, hc, hd, Bool.and_self, cond_true]
  unfold cmpR
  by_cases h1 : checkR ⟨n, a, b⟩ = 0
  · by_cases h2 : checkR ⟨m, c, d⟩ = 0
    · rw [if_pos h1, if_pos h2]
      have h1' : (checkR ⟨n, a, b⟩ != 0) = false := by simpa using h1
      have h2' : (checkR ⟨m, c, d⟩ != 0) = false := by simpa using h2
      rw [h1', h2']
      obtain ⟨A, B, rfl, rfl, sA, sB, nB⟩ := valid_parts h1
      obtain ⟨C, D, rfl, rfl, sC, sD, nD⟩ := valid_parts h2
      clear h1 h2 h1' h2'
      simp only
      by_cases k1 : Sm (A * D)
      · rw [timesE sA sD k1, mulE sA sD k1]
        by_cases k2 : Sm (C * B)
        · rw [timesE sC sB k2, mulE sC sB k2]
          simp only [zz, cond_false, smz k1, smz k2, Bool.and_self, cond_true, cmpE k1 k2]
          unfold ordS
          rw [lessE k1 k2, lessE k2 k1]
          have hi : encS (A * D) = encS (C * B) ↔ A * D = C * B := ⟨encS_inj, fun e => by rw [e]⟩
          simp only [hi]
          rcases Nat.lt_trichotomy (A * D) (C * B) with hl | hl | hl
          · have g1 : ¬ A * D = C * B := by omega
            have g2 : ¬ C * B < A * D := by omega
            rw [cmpN_lt hl, decide_eq_true hl, decide_eq_false g2]
            cases n <;> cases m <;> simp [g1, intV] <;> rfl
          · have g2 : ¬ C * B < A * D := by omega
            have g3 : ¬ A * D < C * B := by omega
            rw [cmpN_eq hl, decide_eq_false g2, decide_eq_false g3]
            cases n <;> cases m <;> simp [hl, intV] <;> rfl
          · have g1 : ¬ A * D = C * B := by omega
            have g3 : ¬ A * D < C * B := by omega
            rw [cmpN_gt hl, decide_eq_true hl, decide_eq_false g3]
            cases n <;> cases m <;> simp [g1, intV] <;> rfl
        · rw [timesL sC sB k2, mulL sC sB k2]
          rfl
      · rw [timesL sA sD k1, mulL sA sD k1]
        rfl
    · have h2' : (checkR ⟨m, c, d⟩ != 0) = true := by simpa using h2
      have h3 : checkR ⟨m, c, d⟩ = 70 := by unfold checkR at h2 ⊢; split at h2 <;> simp_all
      simp [h1, h2, h2', h3, intV]
  · have h1' : (checkR ⟨n, a, b⟩ != 0) = true := by simpa using h1
    have h3 : checkR ⟨n, a, b⟩ = 70 := by unfold checkR at h1 ⊢; split at h1 <;> simp_all
    simp [h1, h1', h3, intV]
theorem rnew_end (n d : Int) (hn : inI n = true) (hd : inI d = true) : sxEnd Try.prog Rd.no r7aCon.p 40 15 [.int .i64 n, .int .i64 d] = some (.returned (resV (newR n d))) := by
  rw [T_rnew]
  unfold newR
  by_cases h0 : d = 0
  · subst h0
    rfl
  · have hb0 : (d == 0) = false := by simpa using h0
    have s1 := sm_abs hn
    have s2 := sm_abs hd
    have hx : (!(decide (n < 0) == decide (d < 0))) = (decide (n < 0) != decide (d < 0)) := rfl
    rw [if_neg h0, low_over s1 s2 (by omega)]
    simp only [hb0, hn, hd, smz s1, smz s2, Bool.and_self, cond_true, cond_false, hx]
    rfl
theorem int_encS (F : Nat) : intF (encS F) = if F < 9223372036854775808 then ((F : Int), true) else (0, false) := by
  unfold intF
  rw [isN_encS, nv_encS]
  by_cases h : F < 9223372036854775808
  · have hs : (encS F).size ≤ 8 := (encS_size_le _ _).2 (Nat.lt_of_lt_of_le h (by decide))
    rw [if_pos h, if_pos ⟨rfl, hs, h⟩]
  · rw [if_neg h, if_neg (fun h2 => h h2.2.2)]
set_option maxHeartbeats 4000000 in
theorem rfloor_end (n : Bool) (a b : ByteArray) (ha : szB a = true) (hb : szB b = true) :
    sxEnd Try.prog Rd.no r7aCon.p 40 17 [.agg #[.bool n, .string a, .string b]] = some (.returned (intV (floorR ⟨n, a, b⟩))) := by
  rw [T_rfloor]
  simp only [ha, hb, Bool.and_self, cond_true, eqL, ← isE_bs]
  unfold floorR
  by_cases h1 : checkR ⟨n, a, b⟩ = 0
  · rw [if_pos h1]
    have h1' : (checkR ⟨n, a, b⟩ != 0) = false := by simpa using h1
    rw [h1']
    obtain ⟨A, B, rfl, rfl, sA, sB, nB⟩ := valid_parts h1
    clear h1 h1'
    simp only
    rw [divE sA sB (by omega)]
    have sF : Sm (A / B) := sA.mono (Nat.div_le_self _ _)
    generalize A / B = F at *
    generalize A % B = R at *
    simp only [isE_encS, int_encS, smz sF, cond_true, cond_false]
    have hsz : ((((encS F).size : Nat) : Int) > 8) ↔ ¬ F < 18446744073709551616 := by
      have := encS_size_le F 8
      rw [show (256 : Nat) ^ 8 = 18446744073709551616 by decide] at this
      omega
    by_cases c1 : F < 18446744073709551616
    · rw [decide_eq_false (fun h => (hsz.1 h) c1)]
      have b1 : szB (bs [1]) = true := rfl
      have e1 : bs [1] = encS 1 := rfl
      have sO : Sm 1 := by unfold Sm; decide +kernel
      have sF1 : Sm (F + 1) := by
        have := enc_sm (n := F + 1) (by omega)
        rwa [size_encS'] at this
      rw [b1, e1, addE sF sO sF1]
      simp only [int_encS, smz sF1, Bool.and_self, cond_true, cond_false]
      by_cases c2 : F < 9223372036854775808
      · by_cases c3 : F + 1 < 9223372036854775808
        · have w1 : IntKind.i64.wrap (0 - (F : Int)) = -(F : Int) := by rw [wrapI (by omega) (by omega)]; omega
          have w2 : IntKind.i64.wrap (0 - ((F + 1 : Nat) : Int)) = -((F : Int) + 1) := by rw [wrapI (by omega) (by omega)]; omega
          rw [if_pos c2, if_pos c3]
          simp only [w1, w2, Bool.not_true, cond_false]
          cases n
          · by_cases c4 : (F : Int) > 4611686018427387904
            · simp [c4, intV]
            · simp [c4, intV]
          · by_cases c5 : R = 0
            · by_cases c4 : (F : Int) > 4611686018427387904
              · simp [c4, c5, intV]
              · simp [c4, c5, intV]
            · by_cases c4 : (F : Int) > 4611686018427387904
              · have c6 : ((F : Int) + 1) > 4611686018427387904 := by omega
                simp [c4, c5, c6, intV]
              · by_cases c6 : ((F : Int) + 1) > 4611686018427387904
                · simp [c4, c5, c6, intV]
                · simp [c4, c5, c6, intV]
        · have hF : F = 9223372036854775807 := by omega
          subst hF
          have w1 : IntKind.i64.wrap (0 - ((9223372036854775807 : Nat) : Int)) = -9223372036854775807 := by rw [wrapI (by omega) (by omega)]; omega
          cases n
          · rfl
          · by_cases c5 : R = 0
            · simp [c5, intV]
            · simp [c5, intV]
      · have c3 : ¬ F + 1 < 9223372036854775808 := by omega
        rw [if_neg c2, if_neg c3]
        cases n
        · rfl
        · by_cases c5 : R = 0
          · simp [c5, intV]
          · simp [c5, intV]
    · rw [decide_eq_true (hsz.2 c1), if_neg (by omega)]
      simp [intV]
  · have h1' : (checkR ⟨n, a, b⟩ != 0) = true := by simpa using h1
    have h3 : checkR ⟨n, a, b⟩ = 70 := by unfold checkR at h1 ⊢; split at h1 <;> simp_all
    simp [h1, h1', h3, intV]

def r7bCon : ECon := fun f =>
  match f with
  | 25 => some (binR addR)
  | 29 => some (binR mulR)
  | 31 => some (binR divR)
  | 33 => some fun vs => match vs with
    | [.agg ⟨[.bool n, .string a, .string b]⟩, .agg ⟨[.bool m, .string c, .string d]⟩] => .need (szB a && szB b && (szB c && szB d)) (retI (cmpR ⟨n, a, b⟩ ⟨m, c, d⟩))
    | _ => .no
  | 17 => some fun vs => match vs with
    | [.agg ⟨[.bool n, .string a, .string b]⟩] => .need (szB a && szB b) (retI (floorR ⟨n, a, b⟩))
    | _ => .no
  | 15 => some fun vs => match vs with
    | [.int .i64 n, .int .i64 d] => .need (inI n && inI d) (retR (newR n d))
    | _ => .no
  | f => r7aCon f
theorem r7bCon_ok : EConOk Try.prog r7bCon := by
  have pl : ∀ {f : FuncId} {vs : List Value} {e0 : Ending}, sxEnd Try.prog Rd.no r7aCon.p 40 f vs = some e0 → Plain Try.prog f vs e0 := fun h => plain_sound pOk (ECon.ok r7aCon_ok) 40 h
  intro f h hf
  unfold r7bCon at hf
  split at hf
  · cases hf; exact ⟨⟨_, Try.func25, rfl⟩, binR_ok fun n m a b c d h1 h2 h3 h4 => pl (radd_end n m a b c d h1 h2 h3 h4)⟩
  · cases hf; exact ⟨⟨_, Try.func29, rfl⟩, binR_ok fun n m a b c d h1 h2 h3 h4 => pl (rmul_end n m a b c d h1 h2 h3 h4)⟩
  · cases hf; exact ⟨⟨_, Try.func31, rfl⟩, binR_ok fun n m a b c d h1 h2 h3 h4 => pl (rdiv_end n m a b c d h1 h2 h3 h4)⟩
  · cases hf
    refine ⟨⟨_, Try.func33, rfl⟩, fun vs e he => ?_⟩
    simp only at he
    split at he
    · obtain ⟨h1, h2⟩ := R3.need_some he
      cases h2
      simp only [Bool.and_eq_true] at h1
      exact ⟨_, rfl, pl (rcmp_end _ _ _ _ _ _ h1.1.1 h1.1.2 h1.2.1 h1.2.2)⟩
    · cases he
  · cases hf
    refine ⟨⟨_, Try.func17, rfl⟩, fun vs e he => ?_⟩
    simp only at he
    split at he
    · obtain ⟨h1, h2⟩ := R3.need_some he
      cases h2
      rw [Bool.and_eq_true] at h1
      exact ⟨_, rfl, pl (rfloor_end _ _ _ h1.1 h1.2)⟩
    · cases he
  · cases hf
    refine ⟨⟨_, Try.func15, rfl⟩, fun vs e he => ?_⟩
    simp only at he
    split at he
    · obtain ⟨h1, h2⟩ := R3.need_some he
      cases h2
      rw [Bool.and_eq_true] at h1
      exact ⟨_, rfl, pl (rnew_end _ _ h1.1 h1.2)⟩
    · cases he
  · exact r7aCon_ok _ _ hf

end Go.Proofs.Ytmcejefeloljiaa

/-
  What the symbolic executor shows of Sub and Ceil of the reference for ratios.
-/
namespace Go.Proofs.Ytmcejefeloljiaa
open Go.RowKit Nm Go.SX

set_option maxRecDepth 100000 in
theorem T_rsub (n m : Bool) (a b c d : ByteArray) : sxEnd Try.prog Rd.no r7bCon.p 40 27 [.agg #[.bool n, .string a, .string b], .agg #[.bool m, .string c, .string d]] =
    bif szB a && szB b then
      bif checkR { neg := n, n := a, d := b } != 0 then
        some
          (Ending.returned
            (Value.tuple
              {
                toList :=
                  [Value.agg { toList := [Value.bool false, Value.string (bs []), Value.string (bs [])] },
                    Value.int IntKind.i64 70] }))
      else
        bif szB c && szB d then
          bif checkR { neg := m, n := c, d := d } != 0 then
            some
              (Ending.returned
                (Value.tuple
                  {
                    toList :=
                      [Value.agg
                          { toList := [Value.bool false, Value.string (bs []), Value.string (bs [])] },
                        Value.int IntKind.i64 70] }))
          else
            bif !m then
              bif szB a && szB b && (szB c && szB d) then
                some
                  (Ending.returned
                    (Value.tuple
                      {
                        toList :=
                          [Value.agg
                              {
                                toList :=
                                  [Value.bool
                                      (addR { neg := n, n := a, d := b }
                                            { neg := !c.toList == (bs []).toList, n := c, d := d }).fst.neg,
                                    Value.string
                                      (addR { neg := n, n := a, d := b }
                                            { neg := !c.toList == (bs []).toList, n := c, d := d }).fst.n,
                                    Value.string
                                      (addR { neg := n, n := a, d := b }
                                            { neg := !c.toList == (bs []).toList, n := c, d := d }).fst.d] },
                            Value.int IntKind.i64
                              (addR { neg := n, n := a, d := b }
                                  { neg := !c.toList == (bs []).toList, n := c, d := d }).snd] }))
              else none
            else
              bif szB a && szB b && (szB c && szB d) then
                some
                  (Ending.returned
                    (Value.tuple
                      {
                        toList :=
                          [Value.agg
                              {
                                toList :=
                                  [Value.bool (addR { neg := n, n := a, d := b } { neg := false, n := c, d := d }).fst.neg,
                                    Value.string (addR { neg := n, n := a, d := b } { neg := false, n := c, d := d }).fst.n,
                                    Value.string
                                      (addR { neg := n, n := a, d := b } { neg := false, n := c, d := d }).fst.d] },
                            Value.int IntKind.i64
                              (addR { neg := n, n := a, d := b } { neg := false, n := c, d := d }).snd] }))
              else none
        else none
    else none := by kernel_rfl
set_option maxRecDepth 100000 in
theorem T_rceil (n : Bool) (a b : ByteArray) : sxEnd Try.prog Rd.no r7bCon.p 40 19 [.agg #[.bool n, .string a, .string b]] =
    bif szB a && szB b then
      bif checkR { neg := n, n := a, d := b } != 0 then
        some (Ending.returned (Value.tuple { toList := [Value.int IntKind.i64 0, Value.int IntKind.i64 70] }))
      else
        bif !n then
          bif szB a && szB b then
            some
              (Ending.returned
                (Value.tuple
                  {
                    toList :=
                      [Value.int IntKind.i64
                          (IntKind.i64.wrap
                            (0 - (floorR { neg := !a.toList == (bs []).toList, n := a, d := b }).fst)),
                        Value.int IntKind.i64
                          (floorR { neg := !a.toList == (bs []).toList, n := a, d := b }).snd] }))
          else none
        else
          bif szB a && szB b then
            some
              (Ending.returned
                (Value.tuple
                  {
                    toList :=
                      [Value.int IntKind.i64 (IntKind.i64.wrap (0 - (floorR { neg := false, n := a, d := b }).fst)),
                        Value.int IntKind.i64 (floorR { neg := false, n := a, d := b }).snd] }))
          else none
    else none := by kernel_rfl

end Go.Proofs.Ytmcejefeloljiaa

/-
  The reference for ratios: Sub, Ceil; the table for the laws of chapter 07.
-/
namespace Go.Proofs.Ytmcejefeloljiaa
set_option linter.unusedSimpArgs false
set_option linter.unusedVariables false
open Go.RowKit Nm Go.SX

theorem chk70 {x : Rt} (h : ¬ checkR x = 0) : checkR x = 70 := by unfold checkR at h ⊢; split at h <;> simp_all
theorem rsub_end (n m : Bool) (a b c d : ByteArray) (ha : szB a = true) (hb : szB b = true) (hc : szB c = true) (hd : szB d = true) :
    sxEnd Try.prog Rd.no r7bCon.p 40 27 [.agg #[.bool n, .string a, .string b], .agg #[.bool m, .string c, .string d]] = some (.returned (resV (subR ⟨n, a, b⟩ ⟨m, c, d⟩))) := by
  rw [T_rsub]
  simp only [ha, hb, hc, hd, Bool.and_self, cond_true, eqL, ← isE_bs]
  unfold subR both
  by_cases h1 : checkR ⟨n, a, b⟩ = 0
  · by_cases h2 : checkR ⟨m, c, d⟩ = 0
    · have h1' : (checkR ⟨n, a, b⟩ != 0) = false := by simpa using h1
      have h2' : (checkR ⟨m, c, d⟩ != 0) = false := by simpa using h2
      have h3 := check_neg _ h2
      rw [if_pos h1, if_pos h2, h1', h2']
      have key : addR ⟨n, a, b⟩ (negR ⟨m, c, d⟩) = resO (addO ⟨n, a, b⟩ (negR ⟨m, c, d⟩)) := by
        unfold addR both
        rw [if_pos h1, if_pos h3]
      rw [← key]
      unfold negR
      cases m <;> rfl
    · have h2' : (checkR ⟨m, c, d⟩ != 0) = true := by simpa using h2
      simp [h1, h2, h2', chk70 h2, resV, rtV, zR, bs]
  · have h1' : (checkR ⟨n, a, b⟩ != 0) = true := by simpa using h1
    simp [h1, h1', chk70 h1, resV, rtV, zR, bs]
theorem rceil_end (n : Bool) (a b : ByteArray) (ha : szB a = true) (hb : szB b = true) :
    sxEnd Try.prog Rd.no r7bCon.p 40 19 [.agg #[.bool n, .string a, .string b]] = some (.returned (intV (ceilR ⟨n, a, b⟩))) := by
  rw [T_rceil]
  simp only [ha, hb, Bool.and_self, cond_true, eqL, ← isE_bs]
  unfold ceilR intV
  have w : ∀ x : Rt, IntKind.i64.wrap (0 - (floorR x).1) = -(floorR x).1 := fun x => by
    have := floorR_range x
    rw [wrapI (by omega) (by omega)]
    omega
  simp only [w]
  by_cases h1 : checkR ⟨n, a, b⟩ = 0
  · have h1' : (checkR ⟨n, a, b⟩ != 0) = false := by simpa using h1
    rw [if_pos h1, h1']
    unfold negR
    cases n <;> rfl
  · have h1' : (checkR ⟨n, a, b⟩ != 0) = true := by simpa using h1
    simp [h1, h1', chk70 h1]
def r7Con : ECon := fun f =>
  match f with
  | 27 => some (binR subR)
  | 19 => some fun vs => match vs with
    | [.agg ⟨[.bool n, .string a, .string b]⟩] => .need (szB a && szB b) (retI (ceilR ⟨n, a, b⟩))
    | _ => .no
  | 12 => some fun vs => match vs with | [] => .ok (.ret (.val (.bool true))) | _ => .no
  | f => r7bCon f
theorem r7Con_ok : EConOk Try.prog r7Con := by
  have pl : ∀ {f : FuncId} {vs : List Value} {e0 : Ending}, sxEnd Try.prog Rd.no r7bCon.p 40 f vs = some e0 → Plain Try.prog f vs e0 := fun h => plain_sound pOk (ECon.ok r7bCon_ok) 40 h
  intro f h hf
  unfold r7Con at hf
  split at hf
  · cases hf; exact ⟨⟨_, Try.func27, rfl⟩, binR_ok fun n m a b c d h1 h2 h3 h4 => pl (rsub_end n m a b c d h1 h2 h3 h4)⟩
  · cases hf
    refine ⟨⟨_, Try.func19, rfl⟩, fun vs e he => ?_⟩
    simp only at he
    split at he
    · obtain ⟨h1, h2⟩ := R3.need_some he
      cases h2
      rw [Bool.and_eq_true] at h1
      exact ⟨_, rfl, pl (rceil_end _ _ _ h1.1 h1.2)⟩
    · cases he
  · cases hf
    refine ⟨⟨_, Try.func12, rfl⟩, fun vs e he => ?_⟩
    simp only at he
    split at he
    · cases he
      exact ⟨_, rfl, plain_sound pOk (ECon.ok (fltCon_ok apiCon_ok)) 60 T_sane⟩
    · cases he
  · exact r7bCon_ok _ _ hf

end Go.Proofs.Ytmcejefeloljiaa

/-
  What the symbolic executor shows of the law of Add, Sub, Mul, Div and Compare.
-/
namespace Go.Proofs.Ytmcejefeloljiaa
open Go.RowKit Nm Go.SX

set_option maxRecDepth 100000 in
theorem T_arith (x y : Rt) : sxEnd Try.prog Rd.no r7Con.p 60 4 [.agg #[.bool x.neg, .string x.n, .string x.d], .agg #[.bool y.neg, .string y.n, .string y.d]] =
    bif decide ((↑x.n.size : Int) ≤ 300) then
      bif !decide ((↑x.d.size : Int) ≤ 300) then some (Ending.returned (Value.bool true))
      else
        bif decide ((↑y.n.size : Int) ≤ 300) then
          bif !decide ((↑y.d.size : Int) ≤ 300) then some (Ending.returned (Value.bool true))
          else
            bif szB x.n && szB x.d && (szB y.n && szB y.d) then
              bif szB x.n && szB x.d && (szB y.n && szB y.d) then
                bif szB x.n && szB x.d && (szB y.n && szB y.d) then
                  bif szB x.n && szB x.d && (szB y.n && szB y.d) then
                    bif
                        !((addR x y).fst.neg == (addR x y).fst.neg &&
                            ((addR x y).fst.n == (addR x y).fst.n && ((addR x y).fst.d == (addR x y).fst.d && true))) then
                      some (Ending.returned (Value.bool false))
                    else
                      bif (addR x y).snd != (addR x y).snd then some (Ending.returned (Value.bool false))
                      else
                        bif
                            !((subR x y).fst.neg == (subR x y).fst.neg &&
                                ((subR x y).fst.n == (subR x y).fst.n &&
                                  ((subR x y).fst.d == (subR x y).fst.d && true))) then
                          some (Ending.returned (Value.bool false))
                        else
                          bif (subR x y).snd != (subR x y).snd then some (Ending.returned (Value.bool false))
                          else
                            bif szB x.n && szB x.d && (szB y.n && szB y.d) then
                              bif szB x.n && szB x.d && (szB y.n && szB y.d) then
                                bif szB x.n && szB x.d && (szB y.n && szB y.d) then
                                  bif szB x.n && szB x.d && (szB y.n && szB y.d) then
                                    bif szB x.n && szB x.d && (szB y.n && szB y.d) then
                                      bif szB x.n && szB x.d && (szB y.n && szB y.d) then
                                        bif
                                            (mulR x y).fst.neg == (mulR x y).fst.neg &&
                                              ((mulR x y).fst.n == (mulR x y).fst.n &&
                                                ((mulR x y).fst.d == (mulR x y).fst.d && true)) then
                                          bif (mulR x y).snd == (mulR x y).snd then
                                            bif
                                                (divR x y).fst.neg == (divR x y).fst.neg &&
                                                  ((divR x y).fst.n == (divR x y).fst.n &&
                                                    ((divR x y).fst.d == (divR x y).fst.d && true)) then
                                              bif (divR x y).snd == (divR x y).snd then
                                                bif (cmpR x y).fst == (cmpR x y).fst then
                                                  some (Ending.returned (Value.bool ((cmpR x y).snd == (cmpR x y).snd)))
                                                else some (Ending.returned (Value.bool false))
                                              else some (Ending.returned (Value.bool false))
                                            else some (Ending.returned (Value.bool false))
                                          else some (Ending.returned (Value.bool false))
                                        else some (Ending.returned (Value.bool false))
                                      else none
                                    else none
                                  else none
                                else none
                              else none
                            else none
                  else none
                else none
              else none
            else none
        else some (Ending.returned (Value.bool true))
    else some (Ending.returned (Value.bool true)) := by kernel_rfl

end Go.Proofs.Ytmcejefeloljiaa

/-
  Facts for the laws of package ratios.
-/
namespace Go.Proofs.Ytmcejefeloljiaa
open Go.RowKit Nm Go.SX

theorem rt_eq (a b : Rt) : (a.neg == b.neg && (a.n == b.n && (a.d == b.d && true))) = true ↔ a = b := by
  obtain ⟨n, x, y⟩ := a
  obtain ⟨m, u, v⟩ := b
  simp only [beqB, Rt.mk.injEq, Bool.and_true, Bool.and_eq_true, decide_eq_true_eq, beq_iff_eq]
theorem eqT (p q : Rat) : ((toR p).neg == (toR q).neg && ((toR p).n == (toR q).n && ((toR p).d == (toR q).d && true))) = decide (p = q) := by
  rw [Bool.eq_iff_iff, rt_eq, toR_iff, decide_eq_true_eq]
theorem eqZ (p : Rat) : ((toR p).neg == false && ((toR p).n == bs [] && ((toR p).d == strOf [1] && true))) = decide (p = 0) := by
  have := eqT p 0
  rwa [← toR_zero'] at this
theorem szE {q : Rat} {k : Nat} (h : Bd q k) (hk : k ≤ 256) : (szB (toR q).n && szB (toR q).d) = true := by
  rw [(h.zR hk).1, (h.zR hk).2]
  rfl
theorem sz_nil : szB (bs []) = true := rfl
theorem sz_one : szB (strOf [1]) = true := rfl

end Go.Proofs.Ytmcejefeloljiaa

/-
  The law of Add, Sub, Mul, Div and Compare.
-/
namespace Go.Proofs.Ytmcejefeloljiaa
set_option linter.unusedSimpArgs false
set_option linter.unusedVariables false
open Go.RowKit Nm Go.SX

theorem rtT (a : Rt) : (a.neg == a.neg && (a.n == a.n && (a.d == a.d && true))) = true := (rt_eq a a).2 rfl
theorem bbT (x : ByteArray) : (x == x) = true := by rw [beqB]; exact decide_eq_true rfl
theorem arith_end (x y : Rt) (hx : (szB x.n && szB x.d) = true) (hy : (szB y.n && szB y.d) = true) :
    sxEnd Try.prog Rd.no r7Con.p 60 4 [rtV x, rtV y] = some (.returned (.bool true)) := by
  unfold rtV
  rw [T_arith]
  simp only [hx, hy, bbT, Bool.true_and, Bool.and_self, cond_true, cond_false, Bool.not_true, bne_self_eq_false, beq_self_eq_true]
  cases decide (((x.n.size : Nat) : Int) ≤ 300) <;> cases decide (((x.d.size : Nat) : Int) ≤ 300) <;> cases decide (((y.n.size : Nat) : Int) ≤ 300) <;> cases decide (((y.d.size : Nat) : Int) ≤ 300) <;> rfl
theorem ratiosArithSpec_walk (x y : Rt) (hx : (szB x.n && szB x.d) = true) (hy : (szB y.n && szB y.d) = true) :
    Plain Try.prog 4 [rtV x, rtV y] (.returned (.bool true)) := plain_sound pOk (ECon.ok r7Con_ok) 60 (arith_end x y hx hy)

end Go.Proofs.Ytmcejefeloljiaa

/-
  Ratios as arguments: opened and shut.
-/
namespace Go.Proofs.Ytmcejefeloljiaa
open Go.RowKit Nm Go.SX Go.WideShapes

theorem three {α : Type} : ∀ {l : List α}, l.length = 3 → ∃ a b c, l = [a, b, c]
  | [a, b, c], _ => ⟨a, b, c, rfl⟩
  | [], h => by simp at h
  | [_], h => by simp at h
  | [_, _], h => by simp at h
  | _ :: _ :: _ :: _ :: _, h => by simp at h
theorem rt_shape {P : Program} {t tb ts : TypeId} {fs : Array Field} {H : Type} {enc : TypeId × Value → H} {W : World} {base : Nat} {sp : Nat → Bool} {held : Bool} {r : Reach} {b0 : Nat} {v : Value} {d : DataW H} {ps : List MemPlace}
    (ht : P.underlying t = some (.struct fs)) (hb : P.underlying tb = some .bool) (hs : P.underlying ts = some .string) (c3 : P.cellsOf t = 3) (cb : P.cellsOf tb = 1) (cs : P.cellsOf ts = 1)
    (fz : fs.map (fun f => (f.type, f.offset)) = #[(tb, 0), (ts, 1), (ts, 2)])
    (hval : Value.okWide P W r b0 t v) (hd : DataW.Trod enc P W base sp held t v d ps) :
    ∃ x : Rt, v = rtV x ∧ x.n.size ≤ maxLen ∧ x.d.size ≤ maxLen ∧ ps = [] ∧ d = .agg [.lit (.bool x.neg), .lit (.string x.n.data.toList), .lit (.string x.d.data.toList)] := by
  obtain ⟨cells, rfl, hsz⟩ := okWide_struct ht hval
  obtain ⟨fuel, hf⟩ := hd
  obtain ⟨xs, n, rfl, hx, hl, hn, hi⟩ := DataW.trod_struct ht hf
  obtain ⟨fl⟩ := fs
  obtain ⟨f0, f1, f2, rfl⟩ := three (l := fl) (by simpa using congrArg Array.size fz)
  simp only [List.map_toArray, List.map_cons, List.map_nil, Array.mk.injEq, List.cons.injEq, Prod.mk.injEq, and_true] at fz
  obtain ⟨⟨t0, o0⟩, ⟨t1, o1⟩, t2, o2⟩ := fz
  have g0 := hi 0 f0 rfl
  have g1 := hi 1 f1 rfl
  have g2 := hi 2 f2 rfl
  rw [t0, o0, cb] at g0
  rw [t1, o1, cs] at g1
  rw [t2, o2, cs] at g2
  obtain ⟨cl⟩ := cells
  simp only [Value.cells] at hl g0 g1 g2 hf
  rw [c3] at hl
  obtain ⟨a, b, c, rfl⟩ := three hl
  obtain ⟨x0, x1, x2, rfl⟩ := three hn
  simp only [List.drop_zero, List.take_succ_cons, List.take_zero, List.drop_succ_cons, List.getElem?_cons_zero, List.getElem?_cons_succ] at g0 g1 g2
  obtain ⟨n0, e0, y0⟩ := DataW.trod_bool hb g0
  obtain ⟨s1, e1, y1, z1⟩ := DataW.trod_string hs g1
  obtain ⟨s2, e2, y2, z2⟩ := DataW.trod_string hs g2
  cases e0
  cases e1
  cases e2
  subst y0 y1 y2
  simp only [Prod.mk.injEq] at hx
  exact ⟨⟨n0, s1, s2⟩, rfl, z1, z2, hx.2, hx.1⟩
theorem rt_shut {P : Program} {t tb ts : TypeId} {H : Type} {enc : TypeId × Value → H} {W : World} {base : Nat} {sp : Nat → Bool} {held : Bool} {x : Rt} {fs : Array Field}
    (ht : P.underlying t = some (.struct fs)) (hb : P.underlying tb = some .bool) (hs : P.underlying ts = some .string) (c3 : P.cellsOf t = 3) (cb : P.cellsOf tb = 1) (cs : P.cellsOf ts = 1)
    (fz : fs.map (fun f => (f.type, f.offset)) = #[(tb, 0), (ts, 1), (ts, 2)]) (h1 : x.n.size ≤ maxLen) (h2 : x.d.size ≤ maxLen) :
    DataW.Trod enc P W base sp held t (rtV x) (.agg [.lit (.bool x.neg), .lit (.string x.n.data.toList), .lit (.string x.d.data.toList)]) [] := by
  refine ⟨2, ?_⟩
  obtain ⟨fl⟩ := fs
  obtain ⟨f0, f1, f2, rfl⟩ := three (l := fl) (by simpa using congrArg Array.size fz)
  simp only [List.map_toArray, List.map_cons, List.map_nil, Array.mk.injEq, List.cons.injEq, Prod.mk.injEq, and_true] at fz
  obtain ⟨⟨t0, o0⟩, ⟨t1, o1⟩, t2, o2⟩ := fz
  simp [DataW.trod, Value.cells, rtV, ht, hb, hs, c3, cb, cs, t0, t1, t2, o0, o1, o2, h1, h2]

end Go.Proofs.Ytmcejefeloljiaa

