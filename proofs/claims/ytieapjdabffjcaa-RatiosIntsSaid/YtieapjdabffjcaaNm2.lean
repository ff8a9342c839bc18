/-
  Plain numbers: what the functions hand back at numbers that are short.
-/
import Derived.Test.YtieapjdabffjcaaNm
namespace Go.Proofs.Ytieapjdabffjcaa.Nm

/-- short: at most 256 bytes -/
def Sm (n : Nat) : Prop := (enc n).length ≤ 256
theorem Sm.size {n : Nat} (h : Sm n) : (encS n).size ≤ 256 := by rw [size_encS]; exact h
theorem enc_len_mono {m n : Nat} (h : m ≤ n) : (enc m).length ≤ (enc n).length :=
  (enc_length_le m _).2 (Nat.lt_of_le_of_lt h ((enc_length_le n _).1 (Nat.le_refl _)))
theorem Sm.mono {m n : Nat} (h : Sm n) (hm : m ≤ n) : Sm m := Nat.le_trans (enc_len_mono hm) h
theorem enc_len_lt (n : Nat) : n < 256 ^ (enc n).length := (enc_length_le n _).1 (Nat.le_refl _)
theorem enc_len_mul (m n : Nat) : (enc (m * n)).length ≤ (enc m).length + (enc n).length := by
  rw [enc_length_le, Nat.pow_add]
  have h1 := enc_len_lt m
  have h2 := enc_len_lt n
  exact Nat.mul_lt_mul'' h1 h2
theorem enc_len_add (m n k : Nat) (hm : (enc m).length ≤ k) (hn : (enc n).length ≤ k) : (enc (m + n)).length ≤ k + 1 := by
  rw [enc_length_le] at *
  rw [Nat.pow_succ]
  omega
theorem natE {a : ByteArray} (h1 : isN a = true) (h2 : a.size ≤ 256) : a = encS (nv a) ∧ Sm (nv a) := by
  have h := encS_nv a h1
  exact ⟨h.symm, by rw [← h] at h2; rw [size_encS] at h2; exact h2⟩
theorem chkE2 {m n : Nat} (hm : Sm m) (hn : Sm n) : chkN [encS m, encS n] = 0 := chk2_of (isN_encS m) (isN_encS n) hm.size hn.size
theorem chkE1 {m : Nat} (hm : Sm m) : chkN [encS m] = 0 := by simp [chkN, isN_encS, hm.size]
theorem shortE {n : Nat} (h : Sm n) : shortN n = (encS n, 0) := if_pos h.size
theorem shortL {n : Nat} (h : ¬ Sm n) : shortN n = (bE, 2) := if_neg (fun hs => h (by rw [size_encS] at hs; exact hs))
theorem addE {m n : Nat} (hm : Sm m) (hn : Sm n) (h : Sm (m + n)) : addF (encS m) (encS n) = (encS (m + n), 0) := by
  rw [addF, if_pos (chkE2 hm hn), nv_encS, nv_encS, shortE h]
theorem addL {m n : Nat} (hm : Sm m) (hn : Sm n) (h : ¬ Sm (m + n)) : addF (encS m) (encS n) = (bE, 2) := by
  rw [addF, if_pos (chkE2 hm hn), nv_encS, nv_encS, shortL h]
theorem mulE {m n : Nat} (hm : Sm m) (hn : Sm n) (h : Sm (m * n)) : mulF (encS m) (encS n) = (encS (m * n), 0) := by
  rw [mulF, if_pos (chkE2 hm hn), nv_encS, nv_encS, shortE h]
theorem mulL {m n : Nat} (hm : Sm m) (hn : Sm n) (h : ¬ Sm (m * n)) : mulF (encS m) (encS n) = (bE, 2) := by
  rw [mulF, if_pos (chkE2 hm hn), nv_encS, nv_encS, shortL h]
theorem subE {m n : Nat} (hm : Sm m) (hn : Sm n) (h : n ≤ m) : subF (encS m) (encS n) = (encS (m - n), 0) := by
  rw [subF, if_pos (chkE2 hm hn), nv_encS, nv_encS, if_neg (by omega)]
theorem subL {m n : Nat} (hm : Sm m) (hn : Sm n) (h : m < n) : subF (encS m) (encS n) = (bE, 1) := by
  rw [subF, if_pos (chkE2 hm hn), nv_encS, nv_encS, if_pos h]
theorem divE {m n : Nat} (hm : Sm m) (hn : Sm n) (h : 0 < n) : divF (encS m) (encS n) = (encS (m / n), encS (m % n), 0) := by
  rw [divF, if_pos (chkE2 hm hn), nv_encS, nv_encS, if_neg (by omega)]
theorem divZ {m : Nat} (hm : Sm m) : divF (encS m) (encS 0) = (bE, bE, 71) := by
  rw [divF, if_pos (chkE2 hm (show Sm 0 by show (enc 0).length ≤ 256; rw [enc_zero]; decide)), nv_encS, nv_encS, if_pos rfl]
theorem cmpE {m n : Nat} (hm : Sm m) (hn : Sm n) : cmpF (encS m) (encS n) = (cmpN m n, 0) := by
  rw [cmpF, if_pos (chkE2 hm hn), nv_encS, nv_encS]
theorem gcdE {m n : Nat} (hm : Sm m) (hn : Sm n) : gcdF (encS m) (encS n) = (encS (Nat.gcd m n), 0) := by
  rw [gcdF, if_pos (chkE2 hm hn), nv_encS, nv_encS]
theorem bE_encS : bE = encS 0 := rfl
theorem encS_max {n : Nat} (h : Sm n) : (encS n).size ≤ Go.maxLen := Nat.le_trans h.size (by unfold Go.maxLen; omega)
theorem chk_two {a b : ByteArray} (h : chkN [a, b] ≠ 0) : chkN [a] ≠ 0 ∨ (chkN [a] = 0 ∧ chkN [b] ≠ 0) := by
  by_cases h1 : chkN [a] = 0
  · refine Or.inr ⟨h1, fun h2 => h ?_⟩
    simp only [chkN, List.all_cons, List.all_nil, Bool.and_true] at h1 h2
    split at h1
    · split at h1
      · split at h2
        · split at h2
          · rename_i e1 e2 e3 e4
            exact chk2_of e1 e3 (by simpa using e2) (by simpa using e4)
          · cases h2
        · cases h2
      · cases h1
    · cases h1
  · exact Or.inl h1
theorem chk_one {a : ByteArray} (h : chkN [a] = 0) : isN a = true ∧ a.size ≤ 256 := by
  simp only [chkN, List.all_cons, List.all_nil, Bool.and_true] at h
  split at h
  · split at h
    · rename_i e1 e2
      exact ⟨e1, by simpa using e2⟩
    · cases h
  · cases h

end Go.Proofs.Ytieapjdabffjcaa.Nm
