/-
  The laws of chapter 06: shared facts.
-/
import Derived.Test.YtlkpphoioocjeaaNatSane
import Derived.Test.YtlkpphoioocjeaaNm2
namespace Go.Proofs.Ytlkpphoioocjeaa
open Go.RowKit Nm

theorem encS0_eq : encS 0 = ⟨#[]⟩ := by rw [← bE_encS]; rfl
theorem encS0_empty : (encS 0).toList.isEmpty = true := by rw [encS0_eq]; decide +kernel
theorem chk_way {a b : ByteArray} (h : chkN [a, b] ≠ 0) :
    (chkN [a, b] = 2 ∨ chkN [a, b] = 60) ∧ ((chkN [a] = 2 ∨ chkN [a] = 60) ∨ (chkN [a] = 0 ∧ (chkN [b] = 2 ∨ chkN [b] = 60))) := by
  simp only [chkN, List.all_cons, List.all_nil, Bool.and_true] at *
  generalize isN a = x at *
  generalize isN b = y at *
  generalize decide (a.size ≤ 256) = u at *
  generalize decide (b.size ≤ 256) = v at *
  cases x <;> cases y <;> cases u <;> cases v <;> revert h <;> decide
theorem size_bE {b : ByteArray} (h : b.size = 0) : b = bE := by
  have h' : b.data = #[] := Array.eq_empty_of_size_eq_zero h
  show b = ⟨#[]⟩
  rw [← h']
theorem size_ne {b : ByteArray} (h : ¬ b.size = 0) : ¬ b.toList = [] := by
  intro hc
  have := isEmpty_false (s := b) (by omega)
  rw [hc] at this
  cases this
theorem bE_nil : bE.toList = [] := by decide +kernel
theorem enc0_nil : (encS 0).toList = [] := bE_nil
theorem mod_nil {n : Nat} (h : n = 0) : (encS n).toList = [] := by rw [h]; exact enc0_nil
theorem mod_ne {n : Nat} (h : ¬ n = 0) : ¬ (encS n).toList = [] := by
  apply size_ne
  intro hc
  apply h
  have := nv_encS n
  rw [size_bE hc] at this
  rw [← this]
  decide +kernel
theorem chk_bad {a : ByteArray} (h : ¬ chkN [a] = 0) : chkN [a] = 2 ∨ chkN [a] = 60 := by
  simp only [chkN, List.all_cons, List.all_nil, Bool.and_true] at *
  generalize isN a = x at *
  generalize decide (a.size ≤ 256) = u at *
  cases x <;> cases u <;> revert h <;> decide
theorem pos_ne {n : Nat} (h : 0 < n) : ¬ (encS n).toList = [] := mod_ne (by omega)
theorem sm60 {n : Nat} (h : (encS n).size ≤ 60) : Sm n := by
  rw [size_encS] at h
  show (enc n).length ≤ 256
  omega
theorem gcd_len {A B k : Nat} (ha : (encS A).size ≤ k) (hb : (encS B).size ≤ k) : (encS (Nat.gcd A B)).size ≤ k := by
  rw [size_encS] at *
  by_cases h : 0 < A
  · exact Nat.le_trans (enc_len_mono (Nat.gcd_le_left B h)) ha
  · obtain rfl : A = 0 := by omega
    rw [Nat.gcd_zero_left]
    exact hb
theorem mul_len {A B : Nat} (ha : (encS A).size ≤ 60) (hb : (encS B).size ≤ 60) : Sm (A * B) := by
  rw [size_encS] at *
  have := enc_len_mul A B
  show (enc (A * B)).length ≤ 256
  omega
theorem cmp_neg {m n : Nat} (h : m < n) : cmpN m n < 0 := by rw [cmpN_lt h]; decide
theorem cmp_pos {m n : Nat} (h : n ≤ m) : 0 ≤ cmpN m n := by
  unfold cmpN
  split
  · omega
  · split <;> omega
theorem add_big {m n : Nat} (h : ¬ Sm (m + n)) : 255 ≤ (encS m).size ∨ ((encS m).size < 255 ∧ 255 ≤ (encS n).size) := by
  rw [size_encS, size_encS]
  apply Decidable.byContradiction
  intro hc
  exact h (enc_len_add m n 255 (by omega) (by omega))
theorem mul_big {m n : Nat} (h : ¬ Sm (m * n)) : 256 < (encS m).size + (encS n).size := by
  rw [size_encS, size_encS]
  apply Decidable.byContradiction
  intro hc
  exact h (Nat.le_trans (enc_len_mul m n) (by omega))
theorem pos_ie {n : Nat} (h : 0 < n) : (encS n).toList.isEmpty = false := by
  have := pos_ne h
  cases hc : (encS n).toList.isEmpty
  · rfl
  · exact absurd (List.isEmpty_iff.1 hc) this
theorem wrap_big {m n : Nat} (h : 256 < m + n) (hm : m ≤ 256) (hn : n ≤ 256) : decide ((256 : Int) < wrap64 (↑m + ↑n)) = true := by
  rw [decide_eq_true_iff]
  have e : wrap64 ((m : Int) + n) = m + n := by unfold wrap64; omega
  rw [e]
  omega
theorem int_div_nat (n m : Nat) : Int.tdiv ↑n ↑m = ((n / m : Nat) : Int) := (Int.ofNat_tdiv n m).symm
theorem int_mod_nat (n m : Nat) : Int.tmod ↑n ↑m = ((n % m : Nat) : Int) := (Int.ofNat_tmod n m).symm

end Go.Proofs.Ytlkpphoioocjeaa
