/-
  What the functions of package ratios do to rational numbers.
-/
import Derived.Test.YtieapjdabffjcaaRatQ
namespace Go.Proofs.Ytieapjdabffjcaa
open Go.RowKit Nm Go.SX

theorem sn_mul (p : Rat) {m : Nat} (hm : m ≠ 0) : Sn (decide (p.num < 0)) (p.num * m) := by
  intro _
  rw [decide_eq_decide]
  constructor
  · intro h
    exact Int.mul_neg_of_neg_of_pos h (by omega)
  · intro h
    by_cases h1 : p.num < 0
    · exact h1
    · have := Int.mul_nonneg (a := p.num) (b := (m : Int)) (by omega) (by omega)
      omega
theorem enc_mul_le {m n i j : Nat} (hm : (enc m).length ≤ i) (hn : (enc n).length ≤ j) : (enc (m * n)).length ≤ i + j := Nat.le_trans (enc_len_mul m n) (by omega)
theorem addO_toR {p q : Rat} {i j : Nat} (hp : Bd p i) (hq : Bd q j) (h : i + j + 1 ≤ 256) : addO (toR p) (toR q) = some (toR (p + q)) ∧ Bd (p + q) (i + j + 1) := by
  have hd : (enc (p.den * q.den)).length ≤ i + j := enc_mul_le hp.2 hq.2
  have hx : (enc (p.num.natAbs * q.den)).length ≤ i + j := enc_mul_le hp.1 hq.2
  have hy : (enc (q.num.natAbs * p.den)).length ≤ i + j := by
    have := enc_mul_le hq.1 hp.2
    omega
  have hs : (enc (p.num.natAbs * q.den + q.num.natAbs * p.den)).length ≤ i + j + 1 := enc_len_add _ _ _ hx hy
  have ex : (p.num * (q.den : Int)).natAbs = p.num.natAbs * q.den := by rw [Int.natAbs_mul]; simp
  have ey : (q.num * (p.den : Int)).natAbs = q.num.natAbs * p.den := by rw [Int.natAbs_mul]; simp
  obtain ⟨b, hb1, hb2⟩ := sadd_toR (sn_mul p q.den_nz) (sn_mul q p.den_nz) (by rw [ex, ey]; exact Nat.le_trans hs h)
  have hz : (enc (p.num * (q.den : Int) + q.num * (p.den : Int)).natAbs).length ≤ i + j + 1 := by
    refine Nat.le_trans (enc_len_mono ?_) hs
    rw [← ex, ← ey]
    exact Int.natAbs_add_le _ _
  have hnz : p.den * q.den ≠ 0 := Nat.mul_ne_zero p.den_nz q.den_nz
  have e : p + q = mkRat (p.num * (q.den : Int) + q.num * (p.den : Int)) (p.den * q.den) := by
    rw [Rat.add_def, Rat.normalize_eq_mkRat]
  refine ⟨?_, ?_⟩
  · unfold addO
    show (timesO (encS p.den) (encS q.den)).bind _ = _
    rw [timesE (hp.d (by omega)) (hq.d (by omega)) (Nat.le_trans hd (by omega))]
    show (timesO (encS p.num.natAbs) (encS q.den)).bind _ = _
    rw [timesE (hp.n (by omega)) (hq.d (by omega)) (Nat.le_trans hx (by omega))]
    show (timesO (encS q.num.natAbs) (encS p.den)).bind _ = _
    rw [timesE (hq.n (by omega)) (hp.d (by omega)) (Nat.le_trans hy (by omega))]
    show (saddO ⟨decide (p.num < 0), encS (p.num.natAbs * q.den)⟩ ⟨decide (q.num < 0), encS (q.num.natAbs * p.den)⟩).bind _ = _
    rw [← ex, ← ey, hb1]
    show overO ⟨b, encS _⟩ (encS (p.den * q.den)) = _
    rw [over_toR hnz hb2 (Nat.le_trans hz h) (Nat.le_trans hd (by omega)), e]
  · rw [e]
    exact mk_bd hnz hz (Nat.le_trans hd (by omega))
theorem add_toR {p q : Rat} {i j : Nat} (hp : Bd p i) (hq : Bd q j) (h : i + j + 1 ≤ 256) : addR (toR p) (toR q) = (toR (p + q), 0) := by
  unfold addR both
  rw [check_toR hp (by omega), check_toR hq (by omega), (addO_toR hp hq h).1]
  rfl
theorem add_bd {p q : Rat} {i j : Nat} (hp : Bd p i) (hq : Bd q j) (h : i + j + 1 ≤ 256) : Bd (p + q) (i + j + 1) := (addO_toR hp hq h).2
theorem neg_toR (q : Rat) : negR (toR q) = toR (-q) := by
  unfold negR toR
  simp only [isE_encS, Rat.neg_num, Rat.neg_den, Int.natAbs_neg]
  congr 1
  by_cases h : q.num < 0
  · have h2 : ¬ (-q.num < 0) := by omega
    rw [decide_eq_true h, decide_eq_false h2]; rfl
  · rw [decide_eq_false h]
    by_cases h0 : q.num = 0
    · rw [decide_eq_true (by omega), decide_eq_false (by omega)]; rfl
    · rw [decide_eq_false (by omega), decide_eq_true (by omega)]; rfl
theorem neg_bd {q : Rat} {k : Nat} (h : Bd q k) : Bd (-q) k := by
  unfold Bd
  rw [Rat.neg_num, Rat.neg_den, Int.natAbs_neg]
  exact h
theorem sub_toR {p q : Rat} {i j : Nat} (hp : Bd p i) (hq : Bd q j) (h : i + j + 1 ≤ 256) : subR (toR p) (toR q) = (toR (p - q), 0) := by
  unfold subR both
  rw [check_toR hp (by omega), check_toR hq (by omega), neg_toR, (addO_toR hp (neg_bd hq) h).1, ← Rat.sub_eq_add_neg]
  rfl
theorem sub_bd {p q : Rat} {i j : Nat} (hp : Bd p i) (hq : Bd q j) (h : i + j + 1 ≤ 256) : Bd (p - q) (i + j + 1) := by
  rw [Rat.sub_eq_add_neg]
  exact (addO_toR hp (neg_bd hq) h).2
theorem sn_sign {a b : Int} : Sn (decide (a < 0) != decide (b < 0)) (a * b) := by
  intro h0
  have ha : a ≠ 0 := fun e => h0 (by rw [e]; simp)
  have hb : b ≠ 0 := fun e => h0 (by rw [e]; simp)
  by_cases h1 : a < 0
  · by_cases h2 : b < 0
    · have := Int.mul_pos_of_neg_of_neg h1 h2
      simp [h1, h2]
      omega
    · have := Int.mul_neg_of_neg_of_pos h1 (show 0 < b by omega)
      simp [h1, h2, this]
  · by_cases h2 : b < 0
    · have := Int.mul_neg_of_pos_of_neg (show 0 < a by omega) h2
      simp [h1, h2, this]
    · have := Int.mul_pos (show 0 < a by omega) (show 0 < b by omega)
      simp [h1, h2]
      omega
theorem mul_toR {p q : Rat} {i j : Nat} (hp : Bd p i) (hq : Bd q j) (h : i + j ≤ 256) : mulR (toR p) (toR q) = (toR (p * q), 0) := by
  have hd : (enc (p.den * q.den)).length ≤ i + j := enc_mul_le hp.2 hq.2
  have hn : (enc (p.num.natAbs * q.num.natAbs)).length ≤ i + j := enc_mul_le hp.1 hq.1
  unfold mulR both
  rw [check_toR hp (by omega), check_toR hq (by omega)]
  unfold mulO
  show (resO ((timesO (encS p.num.natAbs) (encS q.num.natAbs)).bind _)) = _
  rw [timesE (hp.n (by omega)) (hq.n (by omega)) (Nat.le_trans hn h)]
  show (resO ((timesO (encS p.den) (encS q.den)).bind _)) = _
  rw [timesE (hp.d (by omega)) (hq.d (by omega)) (Nat.le_trans hd h)]
  show resO (overO ⟨decide (p.num < 0) != decide (q.num < 0), encS (p.num.natAbs * q.num.natAbs)⟩ (encS (p.den * q.den))) = _
  rw [← Int.natAbs_mul] at hn ⊢
  rw [over_toR (Nat.mul_ne_zero p.den_nz q.den_nz) sn_sign (Nat.le_trans hn h) (Nat.le_trans hd h), Rat.mul_def, Rat.normalize_eq_mkRat]
  rfl
theorem mul_bd {p q : Rat} {i j : Nat} (hp : Bd p i) (hq : Bd q j) : Bd (p * q) (i + j) := by
  rw [Rat.mul_def, Rat.normalize_eq_mkRat]
  refine mk_bd (Nat.mul_ne_zero p.den_nz q.den_nz) ?_ (enc_mul_le hp.2 hq.2)
  rw [Int.natAbs_mul]
  exact enc_mul_le hp.1 hq.1
theorem div_zero {p q : Rat} {i j : Nat} (hp : Bd p i) (hq : Bd q j) (h : i + j ≤ 256) (h0 : q = 0) : divR (toR p) (toR q) = (zR, 71) := by
  unfold divR both
  rw [check_toR hp (by omega), check_toR hq (by omega)]
  subst h0
  rfl
theorem div_toR {p q : Rat} {i j : Nat} (hp : Bd p i) (hq : Bd q j) (h : i + j ≤ 256) (h0 : q ≠ 0) : divR (toR p) (toR q) = (toR (p / q), 0) := by
  have hn : (enc (p.num.natAbs * q.den)).length ≤ i + j := enc_mul_le hp.1 hq.2
  have hd : (enc (p.den * q.num.natAbs)).length ≤ i + j := enc_mul_le hp.2 hq.1
  have hq0 : q.num ≠ 0 := fun e => h0 (Rat.num_eq_zero.1 e)
  unfold divR both
  rw [check_toR hp (by omega), check_toR hq (by omega)]
  have hz : isE (toR q).n = false := by
    unfold toR
    rw [isE_encS]
    exact decide_eq_false (by omega)
  rw [hz]
  unfold mulO
  show (resO ((timesO (encS p.num.natAbs) (encS q.den)).bind _)) = _
  rw [timesE (hp.n (by omega)) (hq.d (by omega)) (Nat.le_trans hn h)]
  show (resO ((timesO (encS p.den) (encS q.num.natAbs)).bind _)) = _
  rw [timesE (hp.d (by omega)) (hq.n (by omega)) (Nat.le_trans hd h)]
  show resO (overO ⟨decide (p.num < 0) != decide (q.num < 0), encS (p.num.natAbs * q.den)⟩ (encS (p.den * q.num.natAbs))) = _
  have hdz : p.den * q.num.natAbs ≠ 0 := Nat.mul_ne_zero p.den_nz (by omega)
  have e1 : p.num.natAbs * q.den = (p.num * (q.num.sign * q.den)).natAbs := by
    rw [Int.natAbs_mul, Int.natAbs_mul, Int.natAbs_sign_of_ne_zero hq0]
    simp
  have sn : Sn (decide (p.num < 0) != decide (q.num < 0)) (p.num * (q.num.sign * q.den)) := by
    have : decide (q.num < 0) = decide (q.num.sign * (q.den : Int) < 0) := by
      rw [decide_eq_decide]
      have hden : 0 < (q.den : Int) := by have := q.den_nz; omega
      by_cases hs : q.num < 0
      · rw [Int.sign_eq_neg_one_of_neg hs]
        constructor
        · intro _; omega
        · intro _; exact hs
      · rw [Int.sign_eq_one_of_pos (by omega)]
        constructor
        · intro h; omega
        · intro h; omega
    rw [this]
    exact sn_sign
  rw [e1] at hn ⊢
  rw [over_toR hdz sn (Nat.le_trans hn h) (Nat.le_trans hd h)]
  have key : mkRat (p.num * (q.num.sign * (q.den : Int))) (p.den * q.num.natAbs) = p / q := by
    have hr : p / q = mkRat (p / q).num (p / q).den := (Rat.mkRat_self _).symm
    have e2 : mkRat (p.num * (q.num.sign * (q.den : Int))) (p.den * q.num.natAbs) * q = p := by
      rw [← Rat.mkRat_self q, ← Rat.mkRat_self p]
      rw [Rat.mkRat_self q, Rat.mkRat_self p]
      conv => lhs; rhs; rw [← Rat.mkRat_self q]
      rw [Rat.mkRat_mul_mkRat]
      conv => rhs; rw [← Rat.mkRat_self p]
      rw [Rat.mkRat_eq_iff (Nat.mul_ne_zero hdz q.den_nz) p.den_nz]
      have hs : q.num.sign * q.num = (q.num.natAbs : Int) := by rw [Int.mul_comm, Int.mul_sign_self]
      push_cast
      have : p.num * (q.num.sign * (q.den : Int)) * q.num * (p.den : Int) = p.num * (q.den : Int) * (p.den : Int) * (q.num.sign * q.num) := by
        simp only [Int.mul_assoc, Int.mul_comm, Int.mul_left_comm]
      rw [this, hs]
      simp only [Int.mul_assoc, Int.mul_comm, Int.mul_left_comm]
    rw [Rat.div_def]
    calc mkRat (p.num * (q.num.sign * (q.den : Int))) (p.den * q.num.natAbs)
        = mkRat (p.num * (q.num.sign * (q.den : Int))) (p.den * q.num.natAbs) * (q * q⁻¹) := by rw [Rat.mul_inv_cancel q h0, Rat.mul_one]
      _ = mkRat (p.num * (q.num.sign * (q.den : Int))) (p.den * q.num.natAbs) * q * q⁻¹ := by rw [Rat.mul_assoc]
      _ = p * q⁻¹ := by rw [e2]
  rw [key]
  rfl

end Go.Proofs.Ytieapjdabffjcaa
