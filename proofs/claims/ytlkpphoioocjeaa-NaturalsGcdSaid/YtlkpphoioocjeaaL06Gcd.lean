/-
  The laws of chapter 06: the walk of NaturalsGcd.
-/
import Derived.Test.YtlkpphoioocjeaaLaw06
namespace Go.Proofs.Ytlkpphoioocjeaa
open Go.RowKit Nm

set_option maxHeartbeats 400000 in
theorem divides_c (A D : Nat) (w : World) (ha : Sm A) (hd : Sm D) (h0 : 0 < D) :
    Calls Try.prog 32 #[.string (encS D), .string (encS A)] w fun e w' => e = .returned (.bool (decide (A % D = 0))) ∧ Below w.heap.size w w' := by
  have h_ := fun w => Div_any (encS A) (encS D) w (encS_max ha) (encS_max hd)
  simp only [divE ha hd h0] at h_
  have HD := Lib.hid h_
  clear h_
  by_cases hz : A % D = 0
  · rw [decide_eq_true hz]
    have hn := mod_nil hz
    clear hz
    go_enter Try.func32, Try.ntmps32
    have hbl : Below w.heap.size w w := Below.refl _ _
    go_wp2_with fail
    refine (HD.out _).mono ?_
    rintro e w1 ⟨rfl, hb⟩
    replace hbl := hbl.trans (hb.mono hbl.size)
    clear hb
    go_wp2_with fail
    go_ret
    exact ⟨rfl, hbl⟩
  · rw [decide_eq_false hz]
    have hn := mod_ne hz
    clear hz
    go_enter Try.func32, Try.ntmps32
    have hbl : Below w.heap.size w w := Below.refl _ _
    go_wp2_with fail
    refine (HD.out _).mono ?_
    rintro e w1 ⟨rfl, hb⟩
    replace hbl := hbl.trans (hb.mono hbl.size)
    clear hb
    go_wp2_with fail
    go_ret
    exact ⟨ret_bool (by simpa using hn), hbl⟩

set_option maxRecDepth 8000 in
set_option maxHeartbeats 2000000 in
theorem gcd_1 (a b c : ByteArray) (w : World) (ha : a.size ≤ maxLen) (hb : b.size ≤ maxLen) (hc : c.size ≤ maxLen) (h1 : 60 < a.size) :
    Calls Try.prog 9 #[.string a, .string b, .string c] w fun e w' => e = .returned (.bool true) ∧ Below w.heap.size w w' := by
  go_enter Try.func9, Try.ntmps9
  have hbl : Below w.heap.size w w := Below.refl _ _
  go_wp2_with fail
  refine (sane_any _).mono ?_
  rintro e w1 ⟨rfl, hb⟩
  replace hbl := hbl.trans (hb.mono hbl.size)
  clear hb
  go_wp2_with fail
  go_ret
  exact ⟨rfl, hbl⟩

set_option maxRecDepth 8000 in
set_option maxHeartbeats 2000000 in
theorem gcd_2 (a b c : ByteArray) (w : World) (ha : a.size ≤ maxLen) (hb : b.size ≤ maxLen) (hc : c.size ≤ maxLen) (h1 : a.size ≤ 60) (h2 : 60 < b.size) :
    Calls Try.prog 9 #[.string a, .string b, .string c] w fun e w' => e = .returned (.bool true) ∧ Below w.heap.size w w' := by
  go_enter Try.func9, Try.ntmps9
  have hbl : Below w.heap.size w w := Below.refl _ _
  go_wp2_with fail
  refine (sane_any _).mono ?_
  rintro e w1 ⟨rfl, hb⟩
  replace hbl := hbl.trans (hb.mono hbl.size)
  clear hb
  go_wp2_with fail
  go_ret
  exact ⟨rfl, hbl⟩

set_option maxRecDepth 8000 in
set_option maxHeartbeats 2000000 in
theorem gcd_3 (a b c : ByteArray) (w : World) (ha : a.size ≤ maxLen) (hb : b.size ≤ maxLen) (hc : c.size ≤ maxLen) (h1 : a.size ≤ 60) (h2 : b.size ≤ 60) (h3 : 60 < c.size) :
    Calls Try.prog 9 #[.string a, .string b, .string c] w fun e w' => e = .returned (.bool true) ∧ Below w.heap.size w w' := by
  go_enter Try.func9, Try.ntmps9
  have hbl : Below w.heap.size w w := Below.refl _ _
  go_wp2_with fail
  refine (sane_any _).mono ?_
  rintro e w1 ⟨rfl, hb⟩
  replace hbl := hbl.trans (hb.mono hbl.size)
  clear hb
  go_wp2_with fail
  go_ret
  exact ⟨rfl, hbl⟩

set_option maxRecDepth 8000 in
set_option maxHeartbeats 2000000 in
theorem gcd_42 (a b c : ByteArray) (w : World) (ha : a.size ≤ maxLen) (hb : b.size ≤ maxLen) (hc : c.size ≤ maxLen) (h1 : a.size ≤ 60) (h2 : b.size ≤ 60) (h3 : c.size ≤ 60) (k1 : chkN [a] = 2) :
    Calls Try.prog 9 #[.string a, .string b, .string c] w fun e w' => e = .returned (.bool true) ∧ Below w.heap.size w w' := by
  have h_ := fun w => Check_any a w ha
  simp only [k1] at h_
  have H0 := Lib.hid h_
  clear h_
  clear k1
  go_enter Try.func9, Try.ntmps9
  have hbl : Below w.heap.size w w := Below.refl _ _
  go_wp2_with fail
  refine (sane_any _).mono ?_
  rintro e w1 ⟨rfl, hb⟩
  replace hbl := hbl.trans (hb.mono hbl.size)
  clear hb
  go_wp2_with fail
  refine (H0.out _).mono ?_
  rintro e w2 ⟨rfl, hb⟩
  replace hbl := hbl.trans (hb.mono hbl.size)
  clear hb
  go_wp2_with fail
  go_ret
  exact ⟨rfl, hbl⟩

set_option maxRecDepth 8000 in
set_option maxHeartbeats 2000000 in
theorem gcd_52 (a b c : ByteArray) (w : World) (ha : a.size ≤ maxLen) (hb : b.size ≤ maxLen) (hc : c.size ≤ maxLen) (h1 : a.size ≤ 60) (h2 : b.size ≤ 60) (h3 : c.size ≤ 60) (k1 : chkN [a] = 0) (k2 : chkN [b] = 2) :
    Calls Try.prog 9 #[.string a, .string b, .string c] w fun e w' => e = .returned (.bool true) ∧ Below w.heap.size w w' := by
  have h_ := fun w => Check_any a w ha
  simp only [k1] at h_
  have H0 := Lib.hid h_
  clear h_
  clear k1
  have h_ := fun w => Check_any b w hb
  simp only [k2] at h_
  have H1 := Lib.hid h_
  clear h_
  clear k2
  go_enter Try.func9, Try.ntmps9
  have hbl : Below w.heap.size w w := Below.refl _ _
  go_wp2_with fail
  refine (sane_any _).mono ?_
  rintro e w1 ⟨rfl, hb⟩
  replace hbl := hbl.trans (hb.mono hbl.size)
  clear hb
  go_wp2_with fail
  refine (H0.out _).mono ?_
  rintro e w2 ⟨rfl, hb⟩
  replace hbl := hbl.trans (hb.mono hbl.size)
  clear hb
  go_wp2_with fail
  refine (H1.out _).mono ?_
  rintro e w3 ⟨rfl, hb⟩
  replace hbl := hbl.trans (hb.mono hbl.size)
  clear hb
  go_wp2_with fail
  go_ret
  exact ⟨rfl, hbl⟩

set_option maxRecDepth 8000 in
set_option maxHeartbeats 2000000 in
theorem gcd_62 (a b c : ByteArray) (w : World) (ha : a.size ≤ maxLen) (hb : b.size ≤ maxLen) (hc : c.size ≤ maxLen) (h1 : a.size ≤ 60) (h2 : b.size ≤ 60) (h3 : c.size ≤ 60) (k1 : chkN [a] = 0) (k2 : chkN [b] = 0) (k3 : chkN [c] = 2) :
    Calls Try.prog 9 #[.string a, .string b, .string c] w fun e w' => e = .returned (.bool true) ∧ Below w.heap.size w w' := by
  have h_ := fun w => Check_any a w ha
  simp only [k1] at h_
  have H0 := Lib.hid h_
  clear h_
  clear k1
  have h_ := fun w => Check_any b w hb
  simp only [k2] at h_
  have H1 := Lib.hid h_
  clear h_
  clear k2
  have h_ := fun w => Check_any c w hc
  simp only [k3] at h_
  have H2 := Lib.hid h_
  clear h_
  clear k3
  go_enter Try.func9, Try.ntmps9
  have hbl : Below w.heap.size w w := Below.refl _ _
  go_wp2_with fail
  refine (sane_any _).mono ?_
  rintro e w1 ⟨rfl, hb⟩
  replace hbl := hbl.trans (hb.mono hbl.size)
  clear hb
  go_wp2_with fail
  refine (H0.out _).mono ?_
  rintro e w2 ⟨rfl, hb⟩
  replace hbl := hbl.trans (hb.mono hbl.size)
  clear hb
  go_wp2_with fail
  refine (H1.out _).mono ?_
  rintro e w3 ⟨rfl, hb⟩
  replace hbl := hbl.trans (hb.mono hbl.size)
  clear hb
  go_wp2_with fail
  refine (H2.out _).mono ?_
  rintro e w4 ⟨rfl, hb⟩
  replace hbl := hbl.trans (hb.mono hbl.size)
  clear hb
  go_wp2_with fail
  go_ret
  exact ⟨rfl, hbl⟩

set_option maxRecDepth 8000 in
set_option maxHeartbeats 2000000 in
theorem gcd_460 (a b c : ByteArray) (w : World) (ha : a.size ≤ maxLen) (hb : b.size ≤ maxLen) (hc : c.size ≤ maxLen) (h1 : a.size ≤ 60) (h2 : b.size ≤ 60) (h3 : c.size ≤ 60) (k1 : chkN [a] = 60) :
    Calls Try.prog 9 #[.string a, .string b, .string c] w fun e w' => e = .returned (.bool true) ∧ Below w.heap.size w w' := by
  have h_ := fun w => Check_any a w ha
  simp only [k1] at h_
  have H0 := Lib.hid h_
  clear h_
  clear k1
  go_enter Try.func9, Try.ntmps9
  have hbl : Below w.heap.size w w := Below.refl _ _
  go_wp2_with fail
  refine (sane_any _).mono ?_
  rintro e w1 ⟨rfl, hb⟩
  replace hbl := hbl.trans (hb.mono hbl.size)
  clear hb
  go_wp2_with fail
  refine (H0.out _).mono ?_
  rintro e w2 ⟨rfl, hb⟩
  replace hbl := hbl.trans (hb.mono hbl.size)
  clear hb
  go_wp2_with fail
  go_ret
  exact ⟨rfl, hbl⟩

set_option maxRecDepth 8000 in
set_option maxHeartbeats 2000000 in
theorem gcd_560 (a b c : ByteArray) (w : World) (ha : a.size ≤ maxLen) (hb : b.size ≤ maxLen) (hc : c.size ≤ maxLen) (h1 : a.size ≤ 60) (h2 : b.size ≤ 60) (h3 : c.size ≤ 60) (k1 : chkN [a] = 0) (k2 : chkN [b] = 60) :
    Calls Try.prog 9 #[.string a, .string b, .string c] w fun e w' => e = .returned (.bool true) ∧ Below w.heap.size w w' := by
  have h_ := fun w => Check_any a w ha
  simp only [k1] at h_
  have H0 := Lib.hid h_
  clear h_
  clear k1
  have h_ := fun w => Check_any b w hb
  simp only [k2] at h_
  have H1 := Lib.hid h_
  clear h_
  clear k2
  go_enter Try.func9, Try.ntmps9
  have hbl : Below w.heap.size w w := Below.refl _ _
  go_wp2_with fail
  refine (sane_any _).mono ?_
  rintro e w1 ⟨rfl, hb⟩
  replace hbl := hbl.trans (hb.mono hbl.size)
  clear hb
  go_wp2_with fail
  refine (H0.out _).mono ?_
  rintro e w2 ⟨rfl, hb⟩
  replace hbl := hbl.trans (hb.mono hbl.size)
  clear hb
  go_wp2_with fail
  refine (H1.out _).mono ?_
  rintro e w3 ⟨rfl, hb⟩
  replace hbl := hbl.trans (hb.mono hbl.size)
  clear hb
  go_wp2_with fail
  go_ret
  exact ⟨rfl, hbl⟩

set_option maxRecDepth 8000 in
set_option maxHeartbeats 2000000 in
theorem gcd_660 (a b c : ByteArray) (w : World) (ha : a.size ≤ maxLen) (hb : b.size ≤ maxLen) (hc : c.size ≤ maxLen) (h1 : a.size ≤ 60) (h2 : b.size ≤ 60) (h3 : c.size ≤ 60) (k1 : chkN [a] = 0) (k2 : chkN [b] = 0) (k3 : chkN [c] = 60) :
    Calls Try.prog 9 #[.string a, .string b, .string c] w fun e w' => e = .returned (.bool true) ∧ Below w.heap.size w w' := by
  have h_ := fun w => Check_any a w ha
  simp only [k1] at h_
  have H0 := Lib.hid h_
  clear h_
  clear k1
  have h_ := fun w => Check_any b w hb
  simp only [k2] at h_
  have H1 := Lib.hid h_
  clear h_
  clear k2
  have h_ := fun w => Check_any c w hc
  simp only [k3] at h_
  have H2 := Lib.hid h_
  clear h_
  clear k3
  go_enter Try.func9, Try.ntmps9
  have hbl : Below w.heap.size w w := Below.refl _ _
  go_wp2_with fail
  refine (sane_any _).mono ?_
  rintro e w1 ⟨rfl, hb⟩
  replace hbl := hbl.trans (hb.mono hbl.size)
  clear hb
  go_wp2_with fail
  refine (H0.out _).mono ?_
  rintro e w2 ⟨rfl, hb⟩
  replace hbl := hbl.trans (hb.mono hbl.size)
  clear hb
  go_wp2_with fail
  refine (H1.out _).mono ?_
  rintro e w3 ⟨rfl, hb⟩
  replace hbl := hbl.trans (hb.mono hbl.size)
  clear hb
  go_wp2_with fail
  refine (H2.out _).mono ?_
  rintro e w4 ⟨rfl, hb⟩
  replace hbl := hbl.trans (hb.mono hbl.size)
  clear hb
  go_wp2_with fail
  go_ret
  exact ⟨rfl, hbl⟩

set_option maxRecDepth 8000 in
set_option maxHeartbeats 2000000 in
theorem gcd_zero (A B C : Nat) (w : World) (hA : (encS A).size ≤ 60) (hB : (encS B).size ≤ 60) (hC : (encS C).size ≤ 60) (h0 : Nat.gcd A B = 0) :
    Calls Try.prog 9 #[.string (encS A), .string (encS B), .string (encS C)] w fun e w' => e = .returned (.bool true) ∧ Below w.heap.size w w' := by
  have sA := sm60 hA
  have sB := sm60 hB
  have sC := sm60 hC
  have h_ := fun w => Check_any (encS A) w (encS_max sA)
  simp only [chkE1 sA] at h_
  have HA := Lib.hid h_
  clear h_
  have h_ := fun w => Check_any (encS B) w (encS_max sB)
  simp only [chkE1 sB] at h_
  have HB := Lib.hid h_
  clear h_
  have h_ := fun w => Check_any (encS C) w (encS_max sC)
  simp only [chkE1 sC] at h_
  have HC := Lib.hid h_
  clear h_
  obtain rfl : A = 0 := Nat.eq_zero_of_gcd_eq_zero_left h0
  obtain rfl : B = 0 := Nat.eq_zero_of_gcd_eq_zero_right h0
  have h_ := fun w => Gcd_any (encS 0) (encS 0) w (encS_max sA) (encS_max sA)
  simp only [gcdE sA sA, Nat.gcd_zero_left] at h_
  have HG := Lib.hid h_
  clear h_
  clear h0
  go_enter Try.func9, Try.ntmps9
  have hbl : Below w.heap.size w w := Below.refl _ _
  have hE0 := encS0_empty
  go_wp2_with fail
  refine (sane_any _).mono ?_
  rintro e w1 ⟨rfl, hb⟩
  replace hbl := hbl.trans (hb.mono hbl.size)
  clear hb
  go_wp2_with fail
  refine (HA.out _).mono ?_
  rintro e w2 ⟨rfl, hb⟩
  replace hbl := hbl.trans (hb.mono hbl.size)
  clear hb
  go_wp2_with fail
  refine (HB.out _).mono ?_
  rintro e w3 ⟨rfl, hb⟩
  replace hbl := hbl.trans (hb.mono hbl.size)
  clear hb
  go_wp2_with fail
  refine (HC.out _).mono ?_
  rintro e w4 ⟨rfl, hb⟩
  replace hbl := hbl.trans (hb.mono hbl.size)
  clear hb
  go_wp2_with fail
  refine (HG.out _).mono ?_
  rintro e w5 ⟨rfl, hb⟩
  replace hbl := hbl.trans (hb.mono hbl.size)
  clear hb
  go_wp2_with fail
  refine (HG.out _).mono ?_
  rintro e w6 ⟨rfl, hb⟩
  replace hbl := hbl.trans (hb.mono hbl.size)
  clear hb
  go_wp2_with fail
  go_ret
  exact ⟨rfl, hbl⟩

set_option maxRecDepth 8000 in
set_option maxHeartbeats 2000000 in
theorem gcd_z (A B C : Nat) (w : World) (hA : (encS A).size ≤ 60) (hB : (encS B).size ≤ 60) (hC : (encS C).size ≤ 60) (h0 : 0 < Nat.gcd A B) (hc : C = 0) :
    Calls Try.prog 9 #[.string (encS A), .string (encS B), .string (encS C)] w fun e w' => e = .returned (.bool true) ∧ Below w.heap.size w w' := by
  have sA := sm60 hA
  have sB := sm60 hB
  have sC := sm60 hC
  have h_ := fun w => Check_any (encS A) w (encS_max sA)
  simp only [chkE1 sA] at h_
  have HA := Lib.hid h_
  clear h_
  have h_ := fun w => Check_any (encS B) w (encS_max sB)
  simp only [chkE1 sB] at h_
  have HB := Lib.hid h_
  clear h_
  have h_ := fun w => Check_any (encS C) w (encS_max sC)
  simp only [chkE1 sC] at h_
  have HC := Lib.hid h_
  clear h_
  have hGl := gcd_len hA hB
  have sG := sm60 hGl
  have e1 : A % Nat.gcd A B = 0 := Nat.mod_eq_zero_of_dvd (Nat.gcd_dvd_left A B)
  have e2 : B % Nat.gcd A B = 0 := Nat.mod_eq_zero_of_dvd (Nat.gcd_dvd_right A B)
  have hgn := pos_ie h0
  have h_ := fun w => Gcd_any (encS A) (encS B) w (encS_max sA) (encS_max sB)
  simp only [gcdE sA sB] at h_
  have HG := Lib.hid h_
  clear h_
  have h_ := fun w => Gcd_any (encS B) (encS A) w (encS_max sB) (encS_max sA)
  simp only [gcdE sB sA, Nat.gcd_comm B A] at h_
  have HG2 := Lib.hid h_
  clear h_
  have h_ := fun w => divides_c A (Nat.gcd A B) w sA sG h0
  simp only [e1, decide_true] at h_
  have HD1 := Lib.hid h_
  clear h_
  have h_ := fun w => divides_c B (Nat.gcd A B) w sB sG h0
  simp only [e2, decide_true] at h_
  have HD2 := Lib.hid h_
  clear h_
  subst hc
  clear h0 e1 e2 hGl sG
  generalize Nat.gcd A B = G at *
  go_enter Try.func9, Try.ntmps9
  have hbl : Below w.heap.size w w := Below.refl _ _
  have hE0 := encS0_empty
  go_wp2_with fail
  refine (sane_any _).mono ?_
  rintro e w1 ⟨rfl, hb⟩
  replace hbl := hbl.trans (hb.mono hbl.size)
  clear hb
  go_wp2_with fail
  refine (HA.out _).mono ?_
  rintro e w2 ⟨rfl, hb⟩
  replace hbl := hbl.trans (hb.mono hbl.size)
  clear hb
  go_wp2_with fail
  refine (HB.out _).mono ?_
  rintro e w3 ⟨rfl, hb⟩
  replace hbl := hbl.trans (hb.mono hbl.size)
  clear hb
  go_wp2_with fail
  refine (HC.out _).mono ?_
  rintro e w4 ⟨rfl, hb⟩
  replace hbl := hbl.trans (hb.mono hbl.size)
  clear hb
  go_wp2_with fail
  refine (HG.out _).mono ?_
  rintro e w5 ⟨rfl, hb⟩
  replace hbl := hbl.trans (hb.mono hbl.size)
  clear hb
  go_wp2_with fail
  refine (HG2.out _).mono ?_
  rintro e w6 ⟨rfl, hb⟩
  replace hbl := hbl.trans (hb.mono hbl.size)
  clear hb
  go_wp2_with fail
  refine (HD1.out _).mono ?_
  rintro e w7 ⟨rfl, hb⟩
  replace hbl := hbl.trans (hb.mono hbl.size)
  clear hb
  go_wp2_with fail
  refine (HD2.out _).mono ?_
  rintro e w8 ⟨rfl, hb⟩
  replace hbl := hbl.trans (hb.mono hbl.size)
  clear hb
  go_wp2_with fail
  go_ret
  exact ⟨rfl, hbl⟩

set_option maxRecDepth 8000 in
set_option maxHeartbeats 2000000 in
theorem gcd_n (A B C : Nat) (w : World) (hA : (encS A).size ≤ 60) (hB : (encS B).size ≤ 60) (hC : (encS C).size ≤ 60) (h0 : 0 < Nat.gcd A B) (hc : 0 < C) (hda : ¬ A % C = 0) :
    Calls Try.prog 9 #[.string (encS A), .string (encS B), .string (encS C)] w fun e w' => e = .returned (.bool true) ∧ Below w.heap.size w w' := by
  have sA := sm60 hA
  have sB := sm60 hB
  have sC := sm60 hC
  have h_ := fun w => Check_any (encS A) w (encS_max sA)
  simp only [chkE1 sA] at h_
  have HA := Lib.hid h_
  clear h_
  have h_ := fun w => Check_any (encS B) w (encS_max sB)
  simp only [chkE1 sB] at h_
  have HB := Lib.hid h_
  clear h_
  have h_ := fun w => Check_any (encS C) w (encS_max sC)
  simp only [chkE1 sC] at h_
  have HC := Lib.hid h_
  clear h_
  have hGl := gcd_len hA hB
  have sG := sm60 hGl
  have e1 : A % Nat.gcd A B = 0 := Nat.mod_eq_zero_of_dvd (Nat.gcd_dvd_left A B)
  have e2 : B % Nat.gcd A B = 0 := Nat.mod_eq_zero_of_dvd (Nat.gcd_dvd_right A B)
  have hgn := pos_ie h0
  have h_ := fun w => Gcd_any (encS A) (encS B) w (encS_max sA) (encS_max sB)
  simp only [gcdE sA sB] at h_
  have HG := Lib.hid h_
  clear h_
  have h_ := fun w => Gcd_any (encS B) (encS A) w (encS_max sB) (encS_max sA)
  simp only [gcdE sB sA, Nat.gcd_comm B A] at h_
  have HG2 := Lib.hid h_
  clear h_
  have h_ := fun w => divides_c A (Nat.gcd A B) w sA sG h0
  simp only [e1, decide_true] at h_
  have HD1 := Lib.hid h_
  clear h_
  have h_ := fun w => divides_c B (Nat.gcd A B) w sB sG h0
  simp only [e2, decide_true] at h_
  have HD2 := Lib.hid h_
  clear h_
  have hcn := pos_ie hc
  have h_ := fun w => divides_c A C w sA sC hc
  simp only [hda, decide_false] at h_
  have HDa := Lib.hid h_
  clear h_
  have m1 := mul_len hA hC
  have m2 := mul_len hB hC
  have m3 := mul_len hGl hC
  have h_ := fun w => Mul_any (encS A) (encS C) w (encS_max sA) (encS_max sC)
  simp only [mulE sA sC m1] at h_
  have HM1 := Lib.hid h_
  clear h_
  have h_ := fun w => Mul_any (encS B) (encS C) w (encS_max sB) (encS_max sC)
  simp only [mulE sB sC m2] at h_
  have HM2 := Lib.hid h_
  clear h_
  have h_ := fun w => Mul_any (encS (Nat.gcd A B)) (encS C) w (encS_max sG) (encS_max sC)
  simp only [mulE sG sC m3] at h_
  have HM3 := Lib.hid h_
  clear h_
  have h_ := fun w => Gcd_any (encS (A * C)) (encS (B * C)) w (encS_max m1) (encS_max m2)
  simp only [gcdE m1 m2, Nat.gcd_mul_right] at h_
  have HG3 := Lib.hid h_
  clear h_
  clear e1 e2 m1 m2 m3 hGl sG hda hc h0
  generalize Nat.gcd A B = G at *
  generalize A * C = X at *
  generalize B * C = Y at *
  generalize G * C = Z at *
  go_enter Try.func9, Try.ntmps9
  have hbl : Below w.heap.size w w := Below.refl _ _
  go_wp2_with fail
  refine (sane_any _).mono ?_
  rintro e w1 ⟨rfl, hb⟩
  replace hbl := hbl.trans (hb.mono hbl.size)
  clear hb
  go_wp2_with fail
  refine (HA.out _).mono ?_
  rintro e w2 ⟨rfl, hb⟩
  replace hbl := hbl.trans (hb.mono hbl.size)
  clear hb
  go_wp2_with fail
  refine (HB.out _).mono ?_
  rintro e w3 ⟨rfl, hb⟩
  replace hbl := hbl.trans (hb.mono hbl.size)
  clear hb
  go_wp2_with fail
  refine (HC.out _).mono ?_
  rintro e w4 ⟨rfl, hb⟩
  replace hbl := hbl.trans (hb.mono hbl.size)
  clear hb
  go_wp2_with fail
  refine (HG.out _).mono ?_
  rintro e w5 ⟨rfl, hb⟩
  replace hbl := hbl.trans (hb.mono hbl.size)
  clear hb
  go_wp2_with fail
  refine (HG2.out _).mono ?_
  rintro e w6 ⟨rfl, hb⟩
  replace hbl := hbl.trans (hb.mono hbl.size)
  clear hb
  go_wp2_with fail
  refine (HD1.out _).mono ?_
  rintro e w7 ⟨rfl, hb⟩
  replace hbl := hbl.trans (hb.mono hbl.size)
  clear hb
  go_wp2_with fail
  refine (HD2.out _).mono ?_
  rintro e w8 ⟨rfl, hb⟩
  replace hbl := hbl.trans (hb.mono hbl.size)
  clear hb
  go_wp2_with fail
  refine (HDa.out _).mono ?_
  rintro e w9 ⟨rfl, hb⟩
  replace hbl := hbl.trans (hb.mono hbl.size)
  clear hb
  go_wp2_with fail
  refine (HM1.out _).mono ?_
  rintro e w10 ⟨rfl, hb⟩
  replace hbl := hbl.trans (hb.mono hbl.size)
  clear hb
  go_wp2_with fail
  refine (HM2.out _).mono ?_
  rintro e w11 ⟨rfl, hb⟩
  replace hbl := hbl.trans (hb.mono hbl.size)
  clear hb
  go_wp2_with fail
  refine (HM3.out _).mono ?_
  rintro e w12 ⟨rfl, hb⟩
  replace hbl := hbl.trans (hb.mono hbl.size)
  clear hb
  go_wp2_with fail
  refine (HG3.out _).mono ?_
  rintro e w13 ⟨rfl, hb⟩
  replace hbl := hbl.trans (hb.mono hbl.size)
  clear hb
  go_wp2_with fail
  go_ret
  exact ⟨ret_bool (by simp), hbl⟩

set_option maxRecDepth 8000 in
set_option maxHeartbeats 2000000 in
theorem gcd_yn (A B C : Nat) (w : World) (hA : (encS A).size ≤ 60) (hB : (encS B).size ≤ 60) (hC : (encS C).size ≤ 60) (h0 : 0 < Nat.gcd A B) (hc : 0 < C) (hda : A % C = 0) (hdb : ¬ B % C = 0) :
    Calls Try.prog 9 #[.string (encS A), .string (encS B), .string (encS C)] w fun e w' => e = .returned (.bool true) ∧ Below w.heap.size w w' := by
  have sA := sm60 hA
  have sB := sm60 hB
  have sC := sm60 hC
  have h_ := fun w => Check_any (encS A) w (encS_max sA)
  simp only [chkE1 sA] at h_
  have HA := Lib.hid h_
  clear h_
  have h_ := fun w => Check_any (encS B) w (encS_max sB)
  simp only [chkE1 sB] at h_
  have HB := Lib.hid h_
  clear h_
  have h_ := fun w => Check_any (encS C) w (encS_max sC)
  simp only [chkE1 sC] at h_
  have HC := Lib.hid h_
  clear h_
  have hGl := gcd_len hA hB
  have sG := sm60 hGl
  have e1 : A % Nat.gcd A B = 0 := Nat.mod_eq_zero_of_dvd (Nat.gcd_dvd_left A B)
  have e2 : B % Nat.gcd A B = 0 := Nat.mod_eq_zero_of_dvd (Nat.gcd_dvd_right A B)
  have hgn := pos_ie h0
  have h_ := fun w => Gcd_any (encS A) (encS B) w (encS_max sA) (encS_max sB)
  simp only [gcdE sA sB] at h_
  have HG := Lib.hid h_
  clear h_
  have h_ := fun w => Gcd_any (encS B) (encS A) w (encS_max sB) (encS_max sA)
  simp only [gcdE sB sA, Nat.gcd_comm B A] at h_
  have HG2 := Lib.hid h_
  clear h_
  have h_ := fun w => divides_c A (Nat.gcd A B) w sA sG h0
  simp only [e1, decide_true] at h_
  have HD1 := Lib.hid h_
  clear h_
  have h_ := fun w => divides_c B (Nat.gcd A B) w sB sG h0
  simp only [e2, decide_true] at h_
  have HD2 := Lib.hid h_
  clear h_
  have hcn := pos_ie hc
  have h_ := fun w => divides_c A C w sA sC hc
  simp only [hda, decide_true] at h_
  have HDa := Lib.hid h_
  clear h_
  have h_ := fun w => divides_c B C w sB sC hc
  simp only [hdb, decide_false] at h_
  have HDb := Lib.hid h_
  clear h_
  have m1 := mul_len hA hC
  have m2 := mul_len hB hC
  have m3 := mul_len hGl hC
  have h_ := fun w => Mul_any (encS A) (encS C) w (encS_max sA) (encS_max sC)
  simp only [mulE sA sC m1] at h_
  have HM1 := Lib.hid h_
  clear h_
  have h_ := fun w => Mul_any (encS B) (encS C) w (encS_max sB) (encS_max sC)
  simp only [mulE sB sC m2] at h_
  have HM2 := Lib.hid h_
  clear h_
  have h_ := fun w => Mul_any (encS (Nat.gcd A B)) (encS C) w (encS_max sG) (encS_max sC)
  simp only [mulE sG sC m3] at h_
  have HM3 := Lib.hid h_
  clear h_
  have h_ := fun w => Gcd_any (encS (A * C)) (encS (B * C)) w (encS_max m1) (encS_max m2)
  simp only [gcdE m1 m2, Nat.gcd_mul_right] at h_
  have HG3 := Lib.hid h_
  clear h_
  clear e1 e2 m1 m2 m3 hGl sG hda hc h0 hdb
  generalize Nat.gcd A B = G at *
  generalize A * C = X at *
  generalize B * C = Y at *
  generalize G * C = Z at *
  go_enter Try.func9, Try.ntmps9
  have hbl : Below w.heap.size w w := Below.refl _ _
  go_wp2_with fail
  refine (sane_any _).mono ?_
  rintro e w1 ⟨rfl, hb⟩
  replace hbl := hbl.trans (hb.mono hbl.size)
  clear hb
  go_wp2_with fail
  refine (HA.out _).mono ?_
  rintro e w2 ⟨rfl, hb⟩
  replace hbl := hbl.trans (hb.mono hbl.size)
  clear hb
  go_wp2_with fail
  refine (HB.out _).mono ?_
  rintro e w3 ⟨rfl, hb⟩
  replace hbl := hbl.trans (hb.mono hbl.size)
  clear hb
  go_wp2_with fail
  refine (HC.out _).mono ?_
  rintro e w4 ⟨rfl, hb⟩
  replace hbl := hbl.trans (hb.mono hbl.size)
  clear hb
  go_wp2_with fail
  refine (HG.out _).mono ?_
  rintro e w5 ⟨rfl, hb⟩
  replace hbl := hbl.trans (hb.mono hbl.size)
  clear hb
  go_wp2_with fail
  refine (HG2.out _).mono ?_
  rintro e w6 ⟨rfl, hb⟩
  replace hbl := hbl.trans (hb.mono hbl.size)
  clear hb
  go_wp2_with fail
  refine (HD1.out _).mono ?_
  rintro e w7 ⟨rfl, hb⟩
  replace hbl := hbl.trans (hb.mono hbl.size)
  clear hb
  go_wp2_with fail
  refine (HD2.out _).mono ?_
  rintro e w8 ⟨rfl, hb⟩
  replace hbl := hbl.trans (hb.mono hbl.size)
  clear hb
  go_wp2_with fail
  refine (HDa.out _).mono ?_
  rintro e w9 ⟨rfl, hb⟩
  replace hbl := hbl.trans (hb.mono hbl.size)
  clear hb
  go_wp2_with fail
  refine (HDb.out _).mono ?_
  rintro e w10 ⟨rfl, hb⟩
  replace hbl := hbl.trans (hb.mono hbl.size)
  clear hb
  go_wp2_with fail
  refine (HM1.out _).mono ?_
  rintro e w11 ⟨rfl, hb⟩
  replace hbl := hbl.trans (hb.mono hbl.size)
  clear hb
  go_wp2_with fail
  refine (HM2.out _).mono ?_
  rintro e w12 ⟨rfl, hb⟩
  replace hbl := hbl.trans (hb.mono hbl.size)
  clear hb
  go_wp2_with fail
  refine (HM3.out _).mono ?_
  rintro e w13 ⟨rfl, hb⟩
  replace hbl := hbl.trans (hb.mono hbl.size)
  clear hb
  go_wp2_with fail
  refine (HG3.out _).mono ?_
  rintro e w14 ⟨rfl, hb⟩
  replace hbl := hbl.trans (hb.mono hbl.size)
  clear hb
  go_wp2_with fail
  go_ret
  exact ⟨ret_bool (by simp), hbl⟩

set_option maxRecDepth 8000 in
set_option maxHeartbeats 2000000 in
theorem gcd_yy (A B C : Nat) (w : World) (hA : (encS A).size ≤ 60) (hB : (encS B).size ≤ 60) (hC : (encS C).size ≤ 60) (h0 : 0 < Nat.gcd A B) (hc : 0 < C) (hda : A % C = 0) (hdb : B % C = 0) :
    Calls Try.prog 9 #[.string (encS A), .string (encS B), .string (encS C)] w fun e w' => e = .returned (.bool true) ∧ Below w.heap.size w w' := by
  have sA := sm60 hA
  have sB := sm60 hB
  have sC := sm60 hC
  have h_ := fun w => Check_any (encS A) w (encS_max sA)
  simp only [chkE1 sA] at h_
  have HA := Lib.hid h_
  clear h_
  have h_ := fun w => Check_any (encS B) w (encS_max sB)
  simp only [chkE1 sB] at h_
  have HB := Lib.hid h_
  clear h_
  have h_ := fun w => Check_any (encS C) w (encS_max sC)
  simp only [chkE1 sC] at h_
  have HC := Lib.hid h_
  clear h_
  have hGl := gcd_len hA hB
  have sG := sm60 hGl
  have e1 : A % Nat.gcd A B = 0 := Nat.mod_eq_zero_of_dvd (Nat.gcd_dvd_left A B)
  have e2 : B % Nat.gcd A B = 0 := Nat.mod_eq_zero_of_dvd (Nat.gcd_dvd_right A B)
  have hgn := pos_ie h0
  have h_ := fun w => Gcd_any (encS A) (encS B) w (encS_max sA) (encS_max sB)
  simp only [gcdE sA sB] at h_
  have HG := Lib.hid h_
  clear h_
  have h_ := fun w => Gcd_any (encS B) (encS A) w (encS_max sB) (encS_max sA)
  simp only [gcdE sB sA, Nat.gcd_comm B A] at h_
  have HG2 := Lib.hid h_
  clear h_
  have h_ := fun w => divides_c A (Nat.gcd A B) w sA sG h0
  simp only [e1, decide_true] at h_
  have HD1 := Lib.hid h_
  clear h_
  have h_ := fun w => divides_c B (Nat.gcd A B) w sB sG h0
  simp only [e2, decide_true] at h_
  have HD2 := Lib.hid h_
  clear h_
  have hcn := pos_ie hc
  have h_ := fun w => divides_c A C w sA sC hc
  simp only [hda, decide_true] at h_
  have HDa := Lib.hid h_
  clear h_
  have h_ := fun w => divides_c B C w sB sC hc
  simp only [hdb, decide_true] at h_
  have HDb := Lib.hid h_
  clear h_
  have e3 : Nat.gcd A B % C = 0 := Nat.mod_eq_zero_of_dvd (Nat.dvd_gcd (Nat.dvd_of_mod_eq_zero hda) (Nat.dvd_of_mod_eq_zero hdb))
  have h_ := fun w => divides_c (Nat.gcd A B) C w sG sC hc
  simp only [e3, decide_true] at h_
  have HDg := Lib.hid h_
  clear h_
  clear e3
  have m1 := mul_len hA hC
  have m2 := mul_len hB hC
  have m3 := mul_len hGl hC
  have h_ := fun w => Mul_any (encS A) (encS C) w (encS_max sA) (encS_max sC)
  simp only [mulE sA sC m1] at h_
  have HM1 := Lib.hid h_
  clear h_
  have h_ := fun w => Mul_any (encS B) (encS C) w (encS_max sB) (encS_max sC)
  simp only [mulE sB sC m2] at h_
  have HM2 := Lib.hid h_
  clear h_
  have h_ := fun w => Mul_any (encS (Nat.gcd A B)) (encS C) w (encS_max sG) (encS_max sC)
  simp only [mulE sG sC m3] at h_
  have HM3 := Lib.hid h_
  clear h_
  have h_ := fun w => Gcd_any (encS (A * C)) (encS (B * C)) w (encS_max m1) (encS_max m2)
  simp only [gcdE m1 m2, Nat.gcd_mul_right] at h_
  have HG3 := Lib.hid h_
  clear h_
  clear e1 e2 m1 m2 m3 hGl sG hda hc h0 hdb
  generalize Nat.gcd A B = G at *
  generalize A * C = X at *
  generalize B * C = Y at *
  generalize G * C = Z at *
  go_enter Try.func9, Try.ntmps9
  have hbl : Below w.heap.size w w := Below.refl _ _
  go_wp2_with fail
  refine (sane_any _).mono ?_
  rintro e w1 ⟨rfl, hb⟩
  replace hbl := hbl.trans (hb.mono hbl.size)
  clear hb
  go_wp2_with fail
  refine (HA.out _).mono ?_
  rintro e w2 ⟨rfl, hb⟩
  replace hbl := hbl.trans (hb.mono hbl.size)
  clear hb
  go_wp2_with fail
  refine (HB.out _).mono ?_
  rintro e w3 ⟨rfl, hb⟩
  replace hbl := hbl.trans (hb.mono hbl.size)
  clear hb
  go_wp2_with fail
  refine (HC.out _).mono ?_
  rintro e w4 ⟨rfl, hb⟩
  replace hbl := hbl.trans (hb.mono hbl.size)
  clear hb
  go_wp2_with fail
  refine (HG.out _).mono ?_
  rintro e w5 ⟨rfl, hb⟩
  replace hbl := hbl.trans (hb.mono hbl.size)
  clear hb
  go_wp2_with fail
  refine (HG2.out _).mono ?_
  rintro e w6 ⟨rfl, hb⟩
  replace hbl := hbl.trans (hb.mono hbl.size)
  clear hb
  go_wp2_with fail
  refine (HD1.out _).mono ?_
  rintro e w7 ⟨rfl, hb⟩
  replace hbl := hbl.trans (hb.mono hbl.size)
  clear hb
  go_wp2_with fail
  refine (HD2.out _).mono ?_
  rintro e w8 ⟨rfl, hb⟩
  replace hbl := hbl.trans (hb.mono hbl.size)
  clear hb
  go_wp2_with fail
  refine (HDa.out _).mono ?_
  rintro e w9 ⟨rfl, hb⟩
  replace hbl := hbl.trans (hb.mono hbl.size)
  clear hb
  go_wp2_with fail
  refine (HDb.out _).mono ?_
  rintro e w10 ⟨rfl, hb⟩
  replace hbl := hbl.trans (hb.mono hbl.size)
  clear hb
  go_wp2_with fail
  refine (HDg.out _).mono ?_
  rintro e w11 ⟨rfl, hb⟩
  replace hbl := hbl.trans (hb.mono hbl.size)
  clear hb
  go_wp2_with fail
  refine (HM1.out _).mono ?_
  rintro e w12 ⟨rfl, hb⟩
  replace hbl := hbl.trans (hb.mono hbl.size)
  clear hb
  go_wp2_with fail
  refine (HM2.out _).mono ?_
  rintro e w13 ⟨rfl, hb⟩
  replace hbl := hbl.trans (hb.mono hbl.size)
  clear hb
  go_wp2_with fail
  refine (HM3.out _).mono ?_
  rintro e w14 ⟨rfl, hb⟩
  replace hbl := hbl.trans (hb.mono hbl.size)
  clear hb
  go_wp2_with fail
  refine (HG3.out _).mono ?_
  rintro e w15 ⟨rfl, hb⟩
  replace hbl := hbl.trans (hb.mono hbl.size)
  clear hb
  go_wp2_with fail
  go_ret
  exact ⟨ret_bool (by simp), hbl⟩

set_option maxRecDepth 8000 in
set_option maxHeartbeats 2000000 in
theorem naturalsGcd_walk (a b c : ByteArray) (w : World) (ha : a.size ≤ maxLen) (hb : b.size ≤ maxLen) (hc : c.size ≤ maxLen) :
    Calls Try.prog 9 #[.string a, .string b, .string c] w fun e w' => e = .returned (.bool true) ∧ Below w.heap.size w w' := by
  by_cases h1 : a.size ≤ 60
  · by_cases h2 : b.size ≤ 60
    · by_cases h3 : c.size ≤ 60
      · by_cases k1 : chkN [a] = 0
        · by_cases k2 : chkN [b] = 0
          · by_cases k3 : chkN [c] = 0
            · obtain ⟨ea, _⟩ := natE (chk_one k1).1 (chk_one k1).2
              obtain ⟨eb, _⟩ := natE (chk_one k2).1 (chk_one k2).2
              obtain ⟨ec, _⟩ := natE (chk_one k3).1 (chk_one k3).2
              rw [ea] at h1 ⊢
              rw [eb] at h2 ⊢
              rw [ec] at h3 ⊢
              by_cases h0 : 0 < Nat.gcd (nv a) (nv b)
              · by_cases hc : 0 < nv c
                · by_cases hda : nv a % nv c = 0
                  · by_cases hdb : nv b % nv c = 0
                    · exact gcd_yy _ _ _ w h1 h2 h3 h0 hc hda hdb
                    · exact gcd_yn _ _ _ w h1 h2 h3 h0 hc hda hdb
                  · exact gcd_n _ _ _ w h1 h2 h3 h0 hc hda
                · exact gcd_z _ _ _ w h1 h2 h3 h0 (by omega)
              · exact gcd_zero _ _ _ w h1 h2 h3 (by omega)
            · obtain k3 | k3 := chk_bad k3
              · exact gcd_62 a b c w ha hb hc h1 h2 h3 k1 k2 k3
              · exact gcd_660 a b c w ha hb hc h1 h2 h3 k1 k2 k3
          · obtain k2 | k2 := chk_bad k2
            · exact gcd_52 a b c w ha hb hc h1 h2 h3 k1 k2
            · exact gcd_560 a b c w ha hb hc h1 h2 h3 k1 k2
        · obtain k1 | k1 := chk_bad k1
          · exact gcd_42 a b c w ha hb hc h1 h2 h3 k1
          · exact gcd_460 a b c w ha hb hc h1 h2 h3 k1
      · exact gcd_3 a b c w ha hb hc h1 h2 (by omega)
    · exact gcd_2 a b c w ha hb hc h1 (by omega)
  · exact gcd_1 a b c w ha hb hc (by omega)

end Go.Proofs.Ytlkpphoioocjeaa
