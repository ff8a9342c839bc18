/-
  Ratios and rational numbers: what the functions of package ratios do to them.
-/
import Derived.Test.YtieapjdabffjcaaRatP
namespace Go.Proofs.Ytieapjdabffjcaa
open Go.RowKit Nm Go.SX

def toR (q : Rat) : Rt := ⟨decide (q.num < 0), encS q.num.natAbs, encS q.den⟩
/-- numbers of at most so many bytes -/
def Bd (q : Rat) (k : Nat) : Prop := (enc q.num.natAbs).length ≤ k ∧ (enc q.den).length ≤ k
theorem toR_inj {p q : Rat} (h : toR p = toR q) : p = q := by
  unfold toR at h
  injection h with h1 h2 h3
  have e2 := encS_inj h2
  have e3 := encS_inj h3
  have e1 : decide (p.num < 0) = decide (q.num < 0) := h1
  simp only [decide_eq_decide] at e1
  apply Rat.ext _ e3
  omega
theorem toR_iff {p q : Rat} : toR p = toR q ↔ p = q := ⟨toR_inj, fun h => h ▸ rfl⟩
theorem Bd.mono {q : Rat} {i j : Nat} (h : Bd q i) (hij : i ≤ j) : Bd q j := ⟨Nat.le_trans h.1 hij, Nat.le_trans h.2 hij⟩
theorem Bd.n {q : Rat} {k : Nat} (h : Bd q k) (hk : k ≤ 256) : Sm q.num.natAbs := Nat.le_trans h.1 hk
theorem Bd.d {q : Rat} {k : Nat} (h : Bd q k) (hk : k ≤ 256) : Sm q.den := Nat.le_trans h.2 hk
theorem isE_encS (n : Nat) : isE (encS n) = decide (n = 0) := by
  unfold isE
  rw [size_encS]
  by_cases h : n = 0
  · subst h; rfl
  · have : ¬ (enc n).length = 0 := fun e => h (by have := (enc_length_le n 0).1 (by omega); simpa using this)
    simp [h, this]
theorem one_encS : (⟨#[1]⟩ : ByteArray) = encS 1 := rfl
theorem check_toR {q : Rat} {k : Nat} (h : Bd q k) (hk : k ≤ 256) : checkR (toR q) = 0 := by
  unfold checkR badR toR
  have h1 : (Nat.gcd q.num.natAbs q.den) = 1 := q.reduced
  have h2 := q.den_nz
  simp only [chkE1 (h.n hk), chkE1 (h.d hk), isE_encS, gcdE (h.n hk) (h.d hk), h1, one_encS]
  have h3 : (decide (q.num < 0) && decide (q.num.natAbs = 0)) = false := by
    rw [Bool.and_eq_false_iff]
    by_cases h0 : q.num < 0
    · exact .inr (decide_eq_false (by omega))
    · exact .inl (decide_eq_false h0)
  rw [h3]
  simp [h2]
theorem valid_toR {x : Rt} (h : checkR x = 0) : ∃ q, x = toR q ∧ Bd q 256 := by
  obtain ⟨n, a, b⟩ := x
  unfold checkR at h
  split at h
  · cases h
  · rename_i hb
    split at h
    · rename_i hg
      unfold badR at hb
      simp only [Bool.or_eq_true, decide_eq_true_eq, Bool.and_eq_true, not_or, Classical.not_not] at hb
      obtain ⟨⟨⟨h1, h2⟩, h3⟩, h4⟩ := hb
      obtain ⟨a1, a2⟩ := chk_one h1
      obtain ⟨b1, b2⟩ := chk_one h2
      obtain ⟨ea, sa⟩ := natE a1 a2
      obtain ⟨eb, sb⟩ := natE b1 b2
      simp only at ea eb hg h3 h4
      generalize nv a = i at *
      generalize nv b = j at *
      subst ea
      subst eb
      rw [isE_encS] at h3 h4
      simp only [decide_eq_true_eq] at h3 h4
      rw [gcdE sa sb, one_encS] at hg
      have hg' := encS_inj hg
      refine ⟨⟨if n then -(i : Int) else i, j, h3, ?_⟩, ?_, ?_⟩
      · cases n <;> simpa using hg'
      · unfold toR
        have e1 : (if n = true then -(i : Int) else (i : Int)).natAbs = i := by split <;> omega
        simp only [e1]
        congr 1
        cases n
        · simp
        · have : i ≠ 0 := fun e => h4 ⟨rfl, e⟩
          simp; omega
      · have e1 : (if n = true then -(i : Int) else (i : Int)).natAbs = i := by split <;> omega
        constructor
        · simp only [e1]; exact sa
        · exact sb
    · cases h
theorem Bd.of_size {q : Rat} {k : Nat} (h1 : (toR q).n.size ≤ k) (h2 : (toR q).d.size ≤ k) : Bd q k := by
  unfold toR at h1 h2
  rw [size_encS] at h1 h2
  exact ⟨h1, h2⟩
theorem Bd.zR {q : Rat} {k : Nat} (h : Bd q k) (hk : k ≤ 256) : szB (toR q).n = true ∧ szB (toR q).d = true :=
  ⟨sz256 (by unfold toR; exact (h.n hk).size), sz256 (by unfold toR; exact (h.d hk).size)⟩

/-- the sign that a number shows -/
def Sn (b : Bool) (z : Int) : Prop := z ≠ 0 → b = decide (z < 0)
theorem over_toR {z : Int} {d : Nat} {b : Bool} (hd : d ≠ 0) (hb : Sn b z) (hz : Sm z.natAbs) (hs : Sm d) : overO ⟨b, encS z.natAbs⟩ (encS d) = some (toR (mkRat z d)) := by
  have hg : 0 < Nat.gcd z.natAbs d := Nat.gcd_pos_of_pos_right _ (Nat.pos_of_ne_zero hd)
  have hgz : Sm (Nat.gcd z.natAbs d) := hs.mono (Nat.gcd_le_right _ (Nat.pos_of_ne_zero hd))
  unfold overO overR
  rw [gcdE hz hs]
  simp only [mustO, if_true, Option.map_some, divE hz hgz hg, divE hs hgz hg, isE_encS]
  rw [← Rat.normalize_eq_mkRat hd, Rat.normalize_eq hd]
  unfold toR
  simp only
  have e1 : (z / (Nat.gcd z.natAbs d : Int)).natAbs = z.natAbs / Nat.gcd z.natAbs d := by
    obtain ⟨c, hc⟩ := Nat.gcd_dvd_left z.natAbs d
    have hdv : ((Nat.gcd z.natAbs d : Nat) : Int) ∣ z := by
      have : ((Nat.gcd z.natAbs d : Nat) : Int) ∣ (z.natAbs : Int) := Int.natCast_dvd_natCast.2 (Nat.gcd_dvd_left _ _)
      exact (Int.dvd_natAbs).1 this
    rw [Int.natAbs_ediv_of_dvd hdv]
    simp
  have e2 : (b && !decide (z.natAbs / Nat.gcd z.natAbs d = 0)) = decide (z / (Nat.gcd z.natAbs d : Int) < 0) := by
    by_cases h0 : z = 0
    · subst h0; simp
    · rw [hb h0]
      have hgle : Nat.gcd z.natAbs d ≤ z.natAbs := Nat.gcd_le_left _ (by omega)
      have : z.natAbs / Nat.gcd z.natAbs d ≠ 0 := by
        have := Nat.div_pos hgle hg
        omega
      simp only [this, decide_false, Bool.not_false, Bool.and_true, decide_eq_decide]
      constructor
      · intro h
        exact Int.ediv_neg_of_neg_of_pos h (by omega)
      · intro h
        by_cases h1 : z < 0
        · exact h1
        · have := Int.ediv_nonneg (a := z) (b := (Nat.gcd z.natAbs d : Int)) (by omega) (by omega)
          omega
  rw [e1, e2]
theorem mk_bd {z : Int} {d : Nat} {k : Nat} (hd : d ≠ 0) (hz : (enc z.natAbs).length ≤ k) (hs : (enc d).length ≤ k) : Bd (mkRat z d) k := by
  rw [← Rat.normalize_eq_mkRat hd, Rat.normalize_eq hd]
  unfold Bd
  simp only
  have e1 : (z / (Nat.gcd z.natAbs d : Int)).natAbs = z.natAbs / Nat.gcd z.natAbs d := by
    have hdv : ((Nat.gcd z.natAbs d : Nat) : Int) ∣ z := by
      have : ((Nat.gcd z.natAbs d : Nat) : Int) ∣ (z.natAbs : Int) := Int.natCast_dvd_natCast.2 (Nat.gcd_dvd_left _ _)
      exact (Int.dvd_natAbs).1 this
    rw [Int.natAbs_ediv_of_dvd hdv]
    simp
  rw [e1]
  exact ⟨Nat.le_trans (enc_len_mono (Nat.div_le_self _ _)) hz, Nat.le_trans (enc_len_mono (Nat.div_le_self _ _)) hs⟩
theorem timesE {m n : Nat} (hm : Sm m) (hn : Sm n) (h : Sm (m * n)) : timesO (encS m) (encS n) = some (encS (m * n)) := by
  unfold timesO mustO
  rw [mulE hm hn h]
  rfl
theorem sadd_toR {u v : Int} {bu bv : Bool} (hu : Sn bu u) (hv : Sn bv v) (h : Sm (u.natAbs + v.natAbs)) : ∃ b, saddO ⟨bu, encS u.natAbs⟩ ⟨bv, encS v.natAbs⟩ = some ⟨b, encS (u + v).natAbs⟩ ∧ Sn b (u + v) := by
  have s1 : Sm u.natAbs := h.mono (by omega)
  have s2 : Sm v.natAbs := h.mono (by omega)
  unfold saddO plusO lessB mustO
  simp only [addE s1 s2 h, cmpE s1 s2]
  by_cases hb : bu = bv
  · subst hb
    simp only [if_true, Option.map_some]
    refine ⟨bu, ?_, ?_⟩
    · have : (u + v).natAbs = u.natAbs + v.natAbs := by
        by_cases h1 : u = 0
        · subst h1; simp
        · by_cases h2 : v = 0
          · subst h2; simp
          · have e := (hu h1).symm.trans (hv h2)
            simp only [decide_eq_decide] at e
            omega
      rw [this]
    · intro h0
      by_cases h1 : u = 0
      · subst h1
        rw [Int.zero_add] at h0 ⊢
        exact hv h0
      · by_cases h2 : v = 0
        · subst h2
          rw [Int.add_zero] at h0 ⊢
          exact hu h0
        · have e := (hu h1).symm.trans (hv h2)
          simp only [decide_eq_decide] at e
          rw [hu h1, decide_eq_decide]
          omega
  · rw [if_neg hb]
    have hc : cmpN u.natAbs v.natAbs < 0 ↔ u.natAbs < v.natAbs := by
      unfold cmpN
      split
      · simp; omega
      · split <;> simp <;> omega
    simp only [decide_eq_true_eq, hc]
    by_cases hl : u.natAbs < v.natAbs
    · rw [if_pos hl, subE s2 s1 (by omega)]
      simp only [if_true, Option.map_some]
      have hv0 : v ≠ 0 := by omega
      have hv1 := hv hv0
      refine ⟨bv, ?_, ?_⟩
      · have : (u + v).natAbs = v.natAbs - u.natAbs := by
          by_cases h1 : u = 0
          · subst h1; simp
          · have hu1 := hu h1
            have e : ¬ (decide (u < 0) = decide (v < 0)) := fun e => hb (hu1.trans (e.trans hv1.symm))
            simp only [decide_eq_decide] at e
            omega
        rw [this]
      · intro h0
        rw [hv1, decide_eq_decide]
        omega
    · rw [if_neg hl, subE s1 s2 (by omega)]
      simp only [if_true, Option.map_some]
      refine ⟨bu, ?_, ?_⟩
      · have : (u + v).natAbs = u.natAbs - v.natAbs := by
          by_cases h1 : u = 0
          · omega
          · by_cases h2 : v = 0
            · subst h2; simp
            · have e : ¬ (decide (u < 0) = decide (v < 0)) := fun e => hb ((hu h1).trans (e.trans (hv h2).symm))
              simp only [decide_eq_decide] at e
              omega
        rw [this]
      · intro h0
        have h1 : u ≠ 0 := by omega
        rw [hu h1, decide_eq_decide]
        by_cases h2 : v = 0
        · subst h2; simp
        · have e : ¬ (decide (u < 0) = decide (v < 0)) := fun e => hb ((hu h1).trans (e.trans (hv h2).symm))
          simp only [decide_eq_decide] at e
          omega

end Go.Proofs.Ytieapjdabffjcaa
