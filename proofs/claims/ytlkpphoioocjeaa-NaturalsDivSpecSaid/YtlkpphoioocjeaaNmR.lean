/-
  Plain numbers: lists of ints to the base 256, the least significant first (the reference's sums and products).
-/
import Derived.Test.YtlkpphoioocjeaaNm2
namespace Go.Proofs.Ytlkpphoioocjeaa.Nm

/-- the value of a list of ints, the least significant first -/
def vle : List Int → Int
  | [] => 0
  | x :: l => x + 256 * vle l
/-- the bytes of a text, the last one first -/
def dgi (b : List UInt8) : List Int := (b.map fun x => ((x.toNat : Nat) : Int)).reverse

theorem vle_append (l m : List Int) : vle (l ++ m) = vle l + 256 ^ l.length * vle m := by
  induction l with
  | nil => simp [vle]
  | cons x l ih =>
    simp only [List.cons_append, vle, ih, List.length_cons, Int.pow_succ, Int.mul_add]
    rw [Int.mul_comm (256 ^ l.length) 256, Int.mul_assoc]
    omega
theorem vle_snoc (l : List Int) (x : Int) : vle (l ++ [x]) = vle l + 256 ^ l.length * x := by
  rw [vle_append]; simp [vle]
theorem vle_split (l : List Int) (i : Nat) (h : i ≤ l.length) : vle l = vle (l.take i) + 256 ^ i * vle (l.drop i) := by
  have := vle_append (l.take i) (l.drop i)
  rw [List.take_append_drop, List.length_take, Nat.min_eq_left h] at this
  exact this
theorem vle_drop (l : List Int) (i : Nat) (h : i < l.length) : vle (l.drop i) = l[i] + 256 * vle (l.drop (i + 1)) := by
  rw [List.drop_eq_getElem_cons h]; rfl
theorem vle_take (l : List Int) (i : Nat) : vle (l.take (i + 1)) = vle (l.take i) + 256 ^ i * l.getD i 0 := by
  by_cases h : i < l.length
  · rw [List.take_succ_eq_append_getElem h, vle_snoc, List.length_take, Nat.min_eq_left (by omega)]
    simp [List.getD, h]
  · rw [List.take_of_length_le (by omega), List.take_of_length_le (by omega)]
    simp [List.getD, List.getElem?_eq_none (by omega : l.length ≤ i)]
theorem vle_set (l : List Int) (i : Nat) (x : Int) (h : i < l.length) : vle (l.set i x) = vle l + 256 ^ i * (x - l[i]) := by
  induction l generalizing i with
  | nil => simp at h
  | cons y l ih =>
    cases i with
    | zero => simp [vle]; omega
    | succ i =>
      simp only [List.length_cons] at h
      simp only [List.set_cons_succ, vle, List.getElem_cons_succ, ih i (by omega), Int.pow_succ, Int.mul_add]
      rw [Int.mul_comm (256 ^ i) 256, Int.mul_assoc]
      omega
theorem vle_nonneg (l : List Int) (h : ∀ x ∈ l, 0 ≤ x) : 0 ≤ vle l := by
  induction l with
  | nil => simp [vle]
  | cons x l ih =>
    have h1 := h x (by simp)
    have h2 := ih fun y hy => h y (by simp [hy])
    simp only [vle]; omega
theorem vle_lt (l : List Int) (h : ∀ x ∈ l, x < 256) : vle l < 256 ^ l.length := by
  induction l with
  | nil => simp [vle]
  | cons x l ih =>
    have h1 := h x (by simp)
    have h2 := ih fun y hy => h y (by simp [hy])
    simp only [vle, List.length_cons, Int.pow_succ]; omega
theorem vle_replicate (n : Nat) : vle (List.replicate n 0) = 0 := by
  induction n with
  | zero => rfl
  | succ n ih => rw [List.replicate_succ, vle, ih]; rfl
theorem length_dgi (b : List UInt8) : (dgi b).length = b.length := by simp [dgi]
theorem vle_dgi (b : List UInt8) : vle (dgi b) = ((val b : Nat) : Int) := by
  induction b with
  | nil => rfl
  | cons x l ih =>
    have e : dgi (x :: l) = dgi l ++ [((x.toNat : Nat) : Int)] := by simp [dgi]
    rw [e, vle_snoc, ih, length_dgi, val_cons, Int.natCast_add, Int.natCast_mul, Int.natCast_pow, Int.mul_comm]
    simp only [Int.cast_ofNat_Int]
    omega
theorem dgi_range (b : List UInt8) : ∀ x ∈ dgi b, 0 ≤ x ∧ x < 256 := by
  intro x hx
  simp only [dgi, List.mem_reverse, List.mem_map] at hx
  obtain ⟨y, _, rfl⟩ := hx
  have := y.toNat_lt
  omega
/-- digits, one more -/
theorem dgi_drop (b : List UInt8) (i : Nat) (h : i < b.length) : dgi (b.drop i) = dgi (b.drop (i + 1)) ++ [((b[i].toNat : Nat) : Int)] := by
  rw [List.drop_eq_getElem_cons h]
  unfold dgi
  rw [List.map_cons, List.reverse_cons]
theorem getD_range {l : List Int} {a b : Int} (h : ∀ x ∈ l, a ≤ x ∧ x < b) (ha : a ≤ 0) (hb : 0 < b) (i : Nat) : a ≤ l.getD i 0 ∧ l.getD i 0 < b := by
  by_cases hi : i < l.length
  · simp only [List.getD, List.getElem?_eq_getElem hi, Option.getD_some]
    exact h _ (List.getElem_mem hi)
  · simp only [List.getD, List.getElem?_eq_none (by omega : l.length ≤ i), Option.getD_none]
    exact ⟨ha, hb⟩

/-- between two rounds of 'carry' -/
structure carryI (l out : List Int) (over : Int) (i : Nat) : Prop where
  len : out.length = i
  rng : ∀ x ∈ out, 0 ≤ x ∧ x < 256
  sum : vle out + 256 ^ i * (over + vle (l.drop i)) = vle l
  low : i ≤ l.length → -17179869184 ≤ over ∧ over ≤ 17179869184
  top : l.length < i → 0 ≤ over ∧ over * 256 ^ (i - l.length) ≤ 17179869184
theorem carryI.zero (l : List Int) : carryI l [] 0 0 :=
  ⟨rfl, by simp, by simp [vle], by omega, by omega⟩
theorem carryI.step {l out : List Int} {over d : Int} {i : Nat} (h : carryI l out over i) (hi : i < l.length) (hd : d = over + l[i]) (he : -8589934592 ≤ l[i] ∧ l[i] ≤ 8589934592) :
    carryI l (out ++ [d % 256]) (d / 256) (i + 1) := by
  obtain ⟨h1, h2, h3, h4, _⟩ := h
  have hl := h4 (by omega)
  refine ⟨by simp [h1], ?_, ?_, by omega, by omega⟩
  · intro x hx
    rw [List.mem_append] at hx
    rcases hx with hx | hx
    · exact h2 x hx
    · simp at hx; subst hx; omega
  · rw [vle_snoc, h1, ← h3, vle_drop l i hi, Int.pow_succ, Int.mul_assoc, Int.add_assoc, ← Int.mul_add]
    congr 2
    omega
theorem carryI.more {l out : List Int} {over : Int} {i : Nat} (h : carryI l out over i) (hi : l.length ≤ i) (hp : 0 < over) :
    carryI l (out ++ [over % 256]) (over / 256) (i + 1) ∧ i ≤ l.length + 5 := by
  obtain ⟨h1, h2, h3, h4, h5⟩ := h
  have hb : over * 256 ^ (i - l.length) ≤ 17179869184 := by
    by_cases he : i = l.length
    · subst he; simp; exact (h4 (Nat.le_refl _)).2
    · exact (h5 (by omega)).2
  refine ⟨⟨by simp [h1], ?_, ?_, by omega, ?_⟩, ?_⟩
  · intro x hx
    rw [List.mem_append] at hx
    rcases hx with hx | hx
    · exact h2 x hx
    · simp at hx; subst hx; omega
  · rw [vle_snoc, h1, ← h3, List.drop_of_length_le hi, List.drop_of_length_le (by omega)]
    simp only [vle]
    rw [Int.pow_succ, Int.mul_assoc, Int.add_assoc, ← Int.mul_add]
    congr 2
    omega
  · intro _
    refine ⟨by omega, ?_⟩
    rw [show i + 1 - l.length = (i - l.length) + 1 by omega, Int.pow_succ]
    have hp2 : (0 : Int) ≤ 256 ^ (i - l.length) := Int.pow_nonneg (by omega)
    have : over / 256 * (256 ^ (i - l.length) * 256) = (over / 256 * 256) * 256 ^ (i - l.length) := by
      rw [Int.mul_comm (256 ^ (i - l.length)) 256, Int.mul_assoc]
    rw [this]
    exact Int.le_trans (Int.mul_le_mul_of_nonneg_right (show over / 256 * 256 ≤ over by omega) hp2) hb
  · apply Decidable.byContradiction
    intro hc
    have e : (256 : Int) ^ 6 ≤ 256 ^ (i - l.length) := by
      have := Nat.pow_le_pow_right (show 0 < 256 by omega) (show 6 ≤ i - l.length by omega)
      have h6 : ((256 ^ 6 : Nat) : Int) ≤ ((256 ^ (i - l.length) : Nat) : Int) := by omega
      rw [Int.natCast_pow, Int.natCast_pow] at h6
      exact h6
    have e2 : 1 * (256 : Int) ^ (i - l.length) ≤ over * 256 ^ (i - l.length) := Int.mul_le_mul_of_nonneg_right (by omega) (Int.pow_nonneg (by omega))
    have e3 : (256 : Int) ^ 6 = 281474976710656 := by decide
    omega
theorem carryI.bound {l out : List Int} {over : Int} {i : Nat} (h : carryI l out over i) : -17179869184 ≤ over ∧ over ≤ 17179869184 := by
  obtain ⟨h1, h2, h3, h4, h5⟩ := h
  by_cases hi : i ≤ l.length
  · exact h4 hi
  · have h6 := h5 (by omega)
    have hp : (1 : Int) ≤ 256 ^ (i - l.length) := Int.pow_pos (by omega)
    have := Int.mul_le_mul_of_nonneg_left hp h6.1
    omega
theorem carryI.done {l out : List Int} {over : Int} {i : Nat} (h : carryI l out over i) (hi : l.length ≤ i) (hp : over ≤ 0) (hv : 0 ≤ vle l) : vle out = vle l := by
  obtain ⟨h1, h2, h3, h4, h5⟩ := h
  rw [List.drop_of_length_le hi] at h3
  simp only [vle, Int.add_zero] at h3
  have hlt := vle_lt out fun x hx => (h2 x hx).2
  rw [h1] at hlt
  by_cases h0 : over = 0
  · subst h0; rw [Int.mul_zero, Int.add_zero] at h3; exact h3
  · exfalso
    have hp2 : (0 : Int) < 256 ^ i := Int.pow_pos (by omega)
    have : 256 ^ i * over ≤ 256 ^ i * (-1) := Int.mul_le_mul_of_nonneg_left (by omega) (by omega)
    omega

/-- texts of one length are compared byte by byte -/
theorem val_lt_of_digit (p s t : List UInt8) (x y : UInt8) (hl : s.length = t.length) (h : x.toNat < y.toNat) : val (p ++ x :: s) < val (p ++ y :: t) := by
  rw [val_append, val_append, List.length_cons, List.length_cons, hl, val_cons, val_cons, hl]
  have h1 := val_lt s
  rw [hl] at h1
  have h2 : (x.toNat + 1) * 256 ^ t.length ≤ y.toNat * 256 ^ t.length := Nat.mul_le_mul_right _ h
  rw [Nat.add_mul] at h2
  omega
end Go.Proofs.Ytlkpphoioocjeaa.Nm
