/-
  The laws of chapter 06: the walk of NaturalsBack.
-/
import Derived.Test.YtlkpphoioocjeaaLaw06
namespace Go.Proofs.Ytlkpphoioocjeaa
open Go.RowKit Nm

set_option maxRecDepth 8000 in
set_option maxHeartbeats 2000000 in
theorem back_S_lt_L (A B : Nat) (w : World) (sA : Sm A) (sB : Sm B) (hs : Sm (A + B)) (ho : A < B) (hm : ¬ Sm (A * B)) (hm2 : 256 < (encS A).size + (encS B).size) :
    Calls Try.prog 8 #[.string (encS A), .string (encS B)] w fun e w' => e = .returned (.bool true) ∧ Below w.heap.size w w' := by
  have hA := encS_max sA
  have hB := encS_max sB
  obtain ⟨n, hn, hn0⟩ : ∃ n, cmpN A B = n ∧ n < 0 := ⟨_, rfl, cmp_neg ho⟩
  have h_ := fun w => Compare_any (encS A) (encS B) w hA hB
  simp only [cmpE sA sB, hn] at h_
  have HC := Lib.hid h_
  clear h_
  clear hn
  have h_ := fun w => add_loop (encS A) (encS B) w hA hB
  simp only [addE sA sB hs] at h_
  have HA := Lib.hid h_
  clear h_
  have hS := encS_max hs
  have h_ := fun w => Sub_any (encS (A + B)) (encS B) w hS hB
  simp only [subE hs sB (Nat.le_add_left B A), Nat.add_sub_cancel] at h_
  have HS := Lib.hid h_
  clear h_
  obtain ⟨m, hq, hq0⟩ : ∃ m, cmpN (A + B) A = m ∧ 0 ≤ m := ⟨_, rfl, cmp_pos (Nat.le_add_right A B)⟩
  have h_ := fun w => Compare_any (encS (A + B)) (encS A) w hS hA
  simp only [cmpE hs sA, hq] at h_
  have HC2 := Lib.hid h_
  clear h_
  clear hq
  have h_ := fun w => Check_any (encS (A + B)) w hS
  simp only [chkE1 hs] at h_
  have HK := Lib.hid h_
  clear h_
  clear hS
  generalize A + B = X at *
  clear hs
  have h_ := fun w => Sub_any (encS A) (encS B) w hA hB
  simp only [subL sA sB ho] at h_
  have HT := Lib.hid h_
  clear h_
  have h_ := fun w => Mul_any (encS A) (encS B) w hA hB
  simp only [mulL sA sB hm] at h_
  have HM := Lib.hid h_
  clear h_
  clear hm
  clear ho
  go_enter Try.func8, Try.ntmps8
  have hbl : Below w.heap.size w w := Below.refl _ _
  go_wp2_with fail
  refine (sane_any _).mono ?_
  rintro e w1 ⟨rfl, hb⟩
  replace hbl := hbl.trans (hb.mono hbl.size)
  clear hb
  go_wp2_with fail
  refine (HC.out _).mono ?_
  rintro e w2 ⟨rfl, hb⟩
  replace hbl := hbl.trans (hb.mono hbl.size)
  clear hb
  go_wp2_with fail
  refine (HA.out _).mono ?_
  rintro e w3 ⟨rfl, hb⟩
  replace hbl := hbl.trans (hb.mono hbl.size)
  clear hb
  go_wp2_with fail
  refine (HS.out _).mono ?_
  rintro e w4 ⟨rfl, hb⟩
  replace hbl := hbl.trans (hb.mono hbl.size)
  clear hb
  go_wp2_with fail
  refine (HC2.out _).mono ?_
  rintro e w5 ⟨rfl, hb⟩
  replace hbl := hbl.trans (hb.mono hbl.size)
  clear hb
  go_wp2_with fail
  refine (HK.out _).mono ?_
  rintro e w6 ⟨rfl, hb⟩
  replace hbl := hbl.trans (hb.mono hbl.size)
  clear hb
  go_wp2_with fail
  refine (HT.out _).mono ?_
  rintro e w7 ⟨rfl, hb⟩
  replace hbl := hbl.trans (hb.mono hbl.size)
  clear hb
  go_wp2_with fail
  refine (HM.out _).mono ?_
  rintro e w8 ⟨rfl, hb⟩
  replace hbl := hbl.trans (hb.mono hbl.size)
  clear hb
  go_wp2_with fail
  go_ret
  exact ⟨ret_bool (wrap_big hm2 sA.size sB.size), hbl⟩

set_option maxRecDepth 8000 in
set_option maxHeartbeats 2000000 in
theorem back_S_lt_M (A B : Nat) (w : World) (sA : Sm A) (sB : Sm B) (hs : Sm (A + B)) (ho : A < B) (hm : Sm (A * B)) (hz : 0 < B) :
    Calls Try.prog 8 #[.string (encS A), .string (encS B)] w fun e w' => e = .returned (.bool true) ∧ Below w.heap.size w w' := by
  have hBn := pos_ie hz
  have hA := encS_max sA
  have hB := encS_max sB
  obtain ⟨n, hn, hn0⟩ : ∃ n, cmpN A B = n ∧ n < 0 := ⟨_, rfl, cmp_neg ho⟩
  have h_ := fun w => Compare_any (encS A) (encS B) w hA hB
  simp only [cmpE sA sB, hn] at h_
  have HC := Lib.hid h_
  clear h_
  clear hn
  have h_ := fun w => add_loop (encS A) (encS B) w hA hB
  simp only [addE sA sB hs] at h_
  have HA := Lib.hid h_
  clear h_
  have hS := encS_max hs
  have h_ := fun w => Sub_any (encS (A + B)) (encS B) w hS hB
  simp only [subE hs sB (Nat.le_add_left B A), Nat.add_sub_cancel] at h_
  have HS := Lib.hid h_
  clear h_
  obtain ⟨m, hq, hq0⟩ : ∃ m, cmpN (A + B) A = m ∧ 0 ≤ m := ⟨_, rfl, cmp_pos (Nat.le_add_right A B)⟩
  have h_ := fun w => Compare_any (encS (A + B)) (encS A) w hS hA
  simp only [cmpE hs sA, hq] at h_
  have HC2 := Lib.hid h_
  clear h_
  clear hq
  have h_ := fun w => Check_any (encS (A + B)) w hS
  simp only [chkE1 hs] at h_
  have HK := Lib.hid h_
  clear h_
  clear hS
  generalize A + B = X at *
  clear hs
  have h_ := fun w => Sub_any (encS A) (encS B) w hA hB
  simp only [subL sA sB ho] at h_
  have HT := Lib.hid h_
  clear h_
  have h_ := fun w => Mul_any (encS A) (encS B) w hA hB
  simp only [mulE sA sB hm] at h_
  have HM := Lib.hid h_
  clear h_
  have h_ := fun w => Div_any (encS (A * B)) (encS B) w (encS_max hm) hB
  simp only [divE hm sB hz, Nat.mul_div_cancel _ hz, Nat.mul_mod_left] at h_
  have HD := Lib.hid h_
  clear h_
  clear hm hz
  generalize A * B = Y at *
  clear ho
  go_enter Try.func8, Try.ntmps8
  have hbl : Below w.heap.size w w := Below.refl _ _
  go_wp2_with fail
  refine (sane_any _).mono ?_
  rintro e w1 ⟨rfl, hb⟩
  replace hbl := hbl.trans (hb.mono hbl.size)
  clear hb
  go_wp2_with fail
  refine (HC.out _).mono ?_
  rintro e w2 ⟨rfl, hb⟩
  replace hbl := hbl.trans (hb.mono hbl.size)
  clear hb
  go_wp2_with fail
  refine (HA.out _).mono ?_
  rintro e w3 ⟨rfl, hb⟩
  replace hbl := hbl.trans (hb.mono hbl.size)
  clear hb
  go_wp2_with fail
  refine (HS.out _).mono ?_
  rintro e w4 ⟨rfl, hb⟩
  replace hbl := hbl.trans (hb.mono hbl.size)
  clear hb
  go_wp2_with fail
  refine (HC2.out _).mono ?_
  rintro e w5 ⟨rfl, hb⟩
  replace hbl := hbl.trans (hb.mono hbl.size)
  clear hb
  go_wp2_with fail
  refine (HK.out _).mono ?_
  rintro e w6 ⟨rfl, hb⟩
  replace hbl := hbl.trans (hb.mono hbl.size)
  clear hb
  go_wp2_with fail
  refine (HT.out _).mono ?_
  rintro e w7 ⟨rfl, hb⟩
  replace hbl := hbl.trans (hb.mono hbl.size)
  clear hb
  go_wp2_with fail
  refine (HM.out _).mono ?_
  rintro e w8 ⟨rfl, hb⟩
  replace hbl := hbl.trans (hb.mono hbl.size)
  clear hb
  go_wp2_with fail
  refine (HD.out _).mono ?_
  rintro e w9 ⟨rfl, hb⟩
  replace hbl := hbl.trans (hb.mono hbl.size)
  clear hb
  go_wp2_with fail
  go_ret
  exact ⟨ret_bool encS0_empty, hbl⟩

set_option maxRecDepth 8000 in
set_option maxHeartbeats 2000000 in
theorem back_S_ge_L (A B : Nat) (w : World) (sA : Sm A) (sB : Sm B) (hs : Sm (A + B)) (ho : B ≤ A) (hm : ¬ Sm (A * B)) (hm2 : 256 < (encS A).size + (encS B).size) :
    Calls Try.prog 8 #[.string (encS A), .string (encS B)] w fun e w' => e = .returned (.bool true) ∧ Below w.heap.size w w' := by
  have hA := encS_max sA
  have hB := encS_max sB
  obtain ⟨n, hn, hn0⟩ : ∃ n, cmpN A B = n ∧ 0 ≤ n := ⟨_, rfl, cmp_pos ho⟩
  have h_ := fun w => Compare_any (encS A) (encS B) w hA hB
  simp only [cmpE sA sB, hn] at h_
  have HC := Lib.hid h_
  clear h_
  clear hn
  have h_ := fun w => add_loop (encS A) (encS B) w hA hB
  simp only [addE sA sB hs] at h_
  have HA := Lib.hid h_
  clear h_
  have hS := encS_max hs
  have h_ := fun w => Sub_any (encS (A + B)) (encS B) w hS hB
  simp only [subE hs sB (Nat.le_add_left B A), Nat.add_sub_cancel] at h_
  have HS := Lib.hid h_
  clear h_
  obtain ⟨m, hq, hq0⟩ : ∃ m, cmpN (A + B) A = m ∧ 0 ≤ m := ⟨_, rfl, cmp_pos (Nat.le_add_right A B)⟩
  have h_ := fun w => Compare_any (encS (A + B)) (encS A) w hS hA
  simp only [cmpE hs sA, hq] at h_
  have HC2 := Lib.hid h_
  clear h_
  clear hq
  have h_ := fun w => Check_any (encS (A + B)) w hS
  simp only [chkE1 hs] at h_
  have HK := Lib.hid h_
  clear h_
  clear hS
  generalize A + B = X at *
  clear hs
  have h_ := fun w => Sub_any (encS A) (encS B) w hA hB
  simp only [subE sA sB ho] at h_
  have HT := Lib.hid h_
  clear h_
  have d1 : Sm (A - B) := sA.mono (Nat.sub_le A B)
  have d2 : A - B + B = A := Nat.sub_add_cancel ho
  have h_ := fun w => add_loop (encS (A - B)) (encS B) w (encS_max d1) hB
  simp only [addE d1 sB (by rw [d2]; exact sA), d2] at h_
  have HA2 := Lib.hid h_
  clear h_
  clear d1 d2
  generalize A - B = D at *
  have h_ := fun w => Mul_any (encS A) (encS B) w hA hB
  simp only [mulL sA sB hm] at h_
  have HM := Lib.hid h_
  clear h_
  clear hm
  clear ho
  go_enter Try.func8, Try.ntmps8
  have hbl : Below w.heap.size w w := Below.refl _ _
  go_wp2_with fail
  refine (sane_any _).mono ?_
  rintro e w1 ⟨rfl, hb⟩
  replace hbl := hbl.trans (hb.mono hbl.size)
  clear hb
  go_wp2_with fail
  refine (HC.out _).mono ?_
  rintro e w2 ⟨rfl, hb⟩
  replace hbl := hbl.trans (hb.mono hbl.size)
  clear hb
  go_wp2_with fail
  refine (HA.out _).mono ?_
  rintro e w3 ⟨rfl, hb⟩
  replace hbl := hbl.trans (hb.mono hbl.size)
  clear hb
  go_wp2_with fail
  refine (HS.out _).mono ?_
  rintro e w4 ⟨rfl, hb⟩
  replace hbl := hbl.trans (hb.mono hbl.size)
  clear hb
  go_wp2_with fail
  refine (HC2.out _).mono ?_
  rintro e w5 ⟨rfl, hb⟩
  replace hbl := hbl.trans (hb.mono hbl.size)
  clear hb
  go_wp2_with fail
  refine (HK.out _).mono ?_
  rintro e w6 ⟨rfl, hb⟩
  replace hbl := hbl.trans (hb.mono hbl.size)
  clear hb
  go_wp2_with fail
  refine (HT.out _).mono ?_
  rintro e w7 ⟨rfl, hb⟩
  replace hbl := hbl.trans (hb.mono hbl.size)
  clear hb
  go_wp2_with fail
  refine (HA2.out _).mono ?_
  rintro e w8 ⟨rfl, hb⟩
  replace hbl := hbl.trans (hb.mono hbl.size)
  clear hb
  go_wp2_with fail
  refine (HM.out _).mono ?_
  rintro e w9 ⟨rfl, hb⟩
  replace hbl := hbl.trans (hb.mono hbl.size)
  clear hb
  go_wp2_with fail
  go_ret
  exact ⟨ret_bool (wrap_big hm2 sA.size sB.size), hbl⟩

set_option maxRecDepth 8000 in
set_option maxHeartbeats 2000000 in
theorem back_S_ge_Z (A B : Nat) (w : World) (sA : Sm A) (sB : Sm B) (hs : Sm (A + B)) (ho : B ≤ A) (hz : B = 0) :
    Calls Try.prog 8 #[.string (encS A), .string (encS B)] w fun e w' => e = .returned (.bool true) ∧ Below w.heap.size w w' := by
  have hE0 : (encS B).toList.isEmpty = true := by rw [hz]; exact encS0_empty
  have hmul : Sm (A * B) := by rw [hz, Nat.mul_zero, ← hz]; exact sB
  have hp : (encS (A * B)).toList.isEmpty = true := by rw [hz, Nat.mul_zero]; exact encS0_empty
  have hA := encS_max sA
  have hB := encS_max sB
  obtain ⟨n, hn, hn0⟩ : ∃ n, cmpN A B = n ∧ 0 ≤ n := ⟨_, rfl, cmp_pos ho⟩
  have h_ := fun w => Compare_any (encS A) (encS B) w hA hB
  simp only [cmpE sA sB, hn] at h_
  have HC := Lib.hid h_
  clear h_
  clear hn
  have h_ := fun w => add_loop (encS A) (encS B) w hA hB
  simp only [addE sA sB hs] at h_
  have HA := Lib.hid h_
  clear h_
  have hS := encS_max hs
  have h_ := fun w => Sub_any (encS (A + B)) (encS B) w hS hB
  simp only [subE hs sB (Nat.le_add_left B A), Nat.add_sub_cancel] at h_
  have HS := Lib.hid h_
  clear h_
  obtain ⟨m, hq, hq0⟩ : ∃ m, cmpN (A + B) A = m ∧ 0 ≤ m := ⟨_, rfl, cmp_pos (Nat.le_add_right A B)⟩
  have h_ := fun w => Compare_any (encS (A + B)) (encS A) w hS hA
  simp only [cmpE hs sA, hq] at h_
  have HC2 := Lib.hid h_
  clear h_
  clear hq
  have h_ := fun w => Check_any (encS (A + B)) w hS
  simp only [chkE1 hs] at h_
  have HK := Lib.hid h_
  clear h_
  clear hS
  generalize A + B = X at *
  clear hs
  have h_ := fun w => Sub_any (encS A) (encS B) w hA hB
  simp only [subE sA sB ho] at h_
  have HT := Lib.hid h_
  clear h_
  have d1 : Sm (A - B) := sA.mono (Nat.sub_le A B)
  have d2 : A - B + B = A := Nat.sub_add_cancel ho
  have h_ := fun w => add_loop (encS (A - B)) (encS B) w (encS_max d1) hB
  simp only [addE d1 sB (by rw [d2]; exact sA), d2] at h_
  have HA2 := Lib.hid h_
  clear h_
  clear d1 d2
  generalize A - B = D at *
  have h_ := fun w => Mul_any (encS A) (encS B) w hA hB
  simp only [mulE sA sB hmul] at h_
  have HM := Lib.hid h_
  clear h_
  clear hz hmul
  generalize A * B = Y at *
  clear ho
  go_enter Try.func8, Try.ntmps8
  have hbl : Below w.heap.size w w := Below.refl _ _
  go_wp2_with fail
  refine (sane_any _).mono ?_
  rintro e w1 ⟨rfl, hb⟩
  replace hbl := hbl.trans (hb.mono hbl.size)
  clear hb
  go_wp2_with fail
  refine (HC.out _).mono ?_
  rintro e w2 ⟨rfl, hb⟩
  replace hbl := hbl.trans (hb.mono hbl.size)
  clear hb
  go_wp2_with fail
  refine (HA.out _).mono ?_
  rintro e w3 ⟨rfl, hb⟩
  replace hbl := hbl.trans (hb.mono hbl.size)
  clear hb
  go_wp2_with fail
  refine (HS.out _).mono ?_
  rintro e w4 ⟨rfl, hb⟩
  replace hbl := hbl.trans (hb.mono hbl.size)
  clear hb
  go_wp2_with fail
  refine (HC2.out _).mono ?_
  rintro e w5 ⟨rfl, hb⟩
  replace hbl := hbl.trans (hb.mono hbl.size)
  clear hb
  go_wp2_with fail
  refine (HK.out _).mono ?_
  rintro e w6 ⟨rfl, hb⟩
  replace hbl := hbl.trans (hb.mono hbl.size)
  clear hb
  go_wp2_with fail
  refine (HT.out _).mono ?_
  rintro e w7 ⟨rfl, hb⟩
  replace hbl := hbl.trans (hb.mono hbl.size)
  clear hb
  go_wp2_with fail
  refine (HA2.out _).mono ?_
  rintro e w8 ⟨rfl, hb⟩
  replace hbl := hbl.trans (hb.mono hbl.size)
  clear hb
  go_wp2_with fail
  refine (HM.out _).mono ?_
  rintro e w9 ⟨rfl, hb⟩
  replace hbl := hbl.trans (hb.mono hbl.size)
  clear hb
  go_wp2_with fail
  go_ret
  exact ⟨rfl, hbl⟩

set_option maxRecDepth 8000 in
set_option maxHeartbeats 2000000 in
theorem back_S_ge_M (A B : Nat) (w : World) (sA : Sm A) (sB : Sm B) (hs : Sm (A + B)) (ho : B ≤ A) (hm : Sm (A * B)) (hz : 0 < B) :
    Calls Try.prog 8 #[.string (encS A), .string (encS B)] w fun e w' => e = .returned (.bool true) ∧ Below w.heap.size w w' := by
  have hBn := pos_ie hz
  have hA := encS_max sA
  have hB := encS_max sB
  obtain ⟨n, hn, hn0⟩ : ∃ n, cmpN A B = n ∧ 0 ≤ n := ⟨_, rfl, cmp_pos ho⟩
  have h_ := fun w => Compare_any (encS A) (encS B) w hA hB
  simp only [cmpE sA sB, hn] at h_
  have HC := Lib.hid h_
  clear h_
  clear hn
  have h_ := fun w => add_loop (encS A) (encS B) w hA hB
  simp only [addE sA sB hs] at h_
  have HA := Lib.hid h_
  clear h_
  have hS := encS_max hs
  have h_ := fun w => Sub_any (encS (A + B)) (encS B) w hS hB
  simp only [subE hs sB (Nat.le_add_left B A), Nat.add_sub_cancel] at h_
  have HS := Lib.hid h_
  clear h_
  obtain ⟨m, hq, hq0⟩ : ∃ m, cmpN (A + B) A = m ∧ 0 ≤ m := ⟨_, rfl, cmp_pos (Nat.le_add_right A B)⟩
  have h_ := fun w => Compare_any (encS (A + B)) (encS A) w hS hA
  simp only [cmpE hs sA, hq] at h_
  have HC2 := Lib.hid h_
  clear h_
  clear hq
  have h_ := fun w => Check_any (encS (A + B)) w hS
  simp only [chkE1 hs] at h_
  have HK := Lib.hid h_
  clear h_
  clear hS
  generalize A + B = X at *
  clear hs
  have h_ := fun w => Sub_any (encS A) (encS B) w hA hB
  simp only [subE sA sB ho] at h_
  have HT := Lib.hid h_
  clear h_
  have d1 : Sm (A - B) := sA.mono (Nat.sub_le A B)
  have d2 : A - B + B = A := Nat.sub_add_cancel ho
  have h_ := fun w => add_loop (encS (A - B)) (encS B) w (encS_max d1) hB
  simp only [addE d1 sB (by rw [d2]; exact sA), d2] at h_
  have HA2 := Lib.hid h_
  clear h_
  clear d1 d2
  generalize A - B = D at *
  have h_ := fun w => Mul_any (encS A) (encS B) w hA hB
  simp only [mulE sA sB hm] at h_
  have HM := Lib.hid h_
  clear h_
  have h_ := fun w => Div_any (encS (A * B)) (encS B) w (encS_max hm) hB
  simp only [divE hm sB hz, Nat.mul_div_cancel _ hz, Nat.mul_mod_left] at h_
  have HD := Lib.hid h_
  clear h_
  clear hm hz
  generalize A * B = Y at *
  clear ho
  go_enter Try.func8, Try.ntmps8
  have hbl : Below w.heap.size w w := Below.refl _ _
  go_wp2_with fail
  refine (sane_any _).mono ?_
  rintro e w1 ⟨rfl, hb⟩
  replace hbl := hbl.trans (hb.mono hbl.size)
  clear hb
  go_wp2_with fail
  refine (HC.out _).mono ?_
  rintro e w2 ⟨rfl, hb⟩
  replace hbl := hbl.trans (hb.mono hbl.size)
  clear hb
  go_wp2_with fail
  refine (HA.out _).mono ?_
  rintro e w3 ⟨rfl, hb⟩
  replace hbl := hbl.trans (hb.mono hbl.size)
  clear hb
  go_wp2_with fail
  refine (HS.out _).mono ?_
  rintro e w4 ⟨rfl, hb⟩
  replace hbl := hbl.trans (hb.mono hbl.size)
  clear hb
  go_wp2_with fail
  refine (HC2.out _).mono ?_
  rintro e w5 ⟨rfl, hb⟩
  replace hbl := hbl.trans (hb.mono hbl.size)
  clear hb
  go_wp2_with fail
  refine (HK.out _).mono ?_
  rintro e w6 ⟨rfl, hb⟩
  replace hbl := hbl.trans (hb.mono hbl.size)
  clear hb
  go_wp2_with fail
  refine (HT.out _).mono ?_
  rintro e w7 ⟨rfl, hb⟩
  replace hbl := hbl.trans (hb.mono hbl.size)
  clear hb
  go_wp2_with fail
  refine (HA2.out _).mono ?_
  rintro e w8 ⟨rfl, hb⟩
  replace hbl := hbl.trans (hb.mono hbl.size)
  clear hb
  go_wp2_with fail
  refine (HM.out _).mono ?_
  rintro e w9 ⟨rfl, hb⟩
  replace hbl := hbl.trans (hb.mono hbl.size)
  clear hb
  go_wp2_with fail
  refine (HD.out _).mono ?_
  rintro e w10 ⟨rfl, hb⟩
  replace hbl := hbl.trans (hb.mono hbl.size)
  clear hb
  go_wp2_with fail
  go_ret
  exact ⟨ret_bool encS0_empty, hbl⟩

set_option maxRecDepth 8000 in
set_option maxHeartbeats 2000000 in
theorem back_La_lt_L (A B : Nat) (w : World) (sA : Sm A) (sB : Sm B) (hs : ¬ Sm (A + B)) (hl : 255 ≤ (encS A).size) (ho : A < B) (hm : ¬ Sm (A * B)) (hm2 : 256 < (encS A).size + (encS B).size) :
    Calls Try.prog 8 #[.string (encS A), .string (encS B)] w fun e w' => e = .returned (.bool true) ∧ Below w.heap.size w w' := by
  have hA := encS_max sA
  have hB := encS_max sB
  obtain ⟨n, hn, hn0⟩ : ∃ n, cmpN A B = n ∧ n < 0 := ⟨_, rfl, cmp_neg ho⟩
  have h_ := fun w => Compare_any (encS A) (encS B) w hA hB
  simp only [cmpE sA sB, hn] at h_
  have HC := Lib.hid h_
  clear h_
  clear hn
  have h_ := fun w => add_loop (encS A) (encS B) w hA hB
  simp only [addL sA sB hs] at h_
  have HA := Lib.hid h_
  clear h_
  clear hs
  have h_ := fun w => Sub_any (encS A) (encS B) w hA hB
  simp only [subL sA sB ho] at h_
  have HT := Lib.hid h_
  clear h_
  have h_ := fun w => Mul_any (encS A) (encS B) w hA hB
  simp only [mulL sA sB hm] at h_
  have HM := Lib.hid h_
  clear h_
  clear hm
  clear ho
  go_enter Try.func8, Try.ntmps8
  have hbl : Below w.heap.size w w := Below.refl _ _
  go_wp2_with fail
  refine (sane_any _).mono ?_
  rintro e w1 ⟨rfl, hb⟩
  replace hbl := hbl.trans (hb.mono hbl.size)
  clear hb
  go_wp2_with fail
  refine (HC.out _).mono ?_
  rintro e w2 ⟨rfl, hb⟩
  replace hbl := hbl.trans (hb.mono hbl.size)
  clear hb
  go_wp2_with fail
  refine (HA.out _).mono ?_
  rintro e w3 ⟨rfl, hb⟩
  replace hbl := hbl.trans (hb.mono hbl.size)
  clear hb
  go_wp2_with fail
  refine (HT.out _).mono ?_
  rintro e w4 ⟨rfl, hb⟩
  replace hbl := hbl.trans (hb.mono hbl.size)
  clear hb
  go_wp2_with fail
  refine (HM.out _).mono ?_
  rintro e w5 ⟨rfl, hb⟩
  replace hbl := hbl.trans (hb.mono hbl.size)
  clear hb
  go_wp2_with fail
  go_ret
  exact ⟨ret_bool (wrap_big hm2 sA.size sB.size), hbl⟩

set_option maxRecDepth 8000 in
set_option maxHeartbeats 2000000 in
theorem back_La_lt_M (A B : Nat) (w : World) (sA : Sm A) (sB : Sm B) (hs : ¬ Sm (A + B)) (hl : 255 ≤ (encS A).size) (ho : A < B) (hm : Sm (A * B)) (hz : 0 < B) :
    Calls Try.prog 8 #[.string (encS A), .string (encS B)] w fun e w' => e = .returned (.bool true) ∧ Below w.heap.size w w' := by
  have hBn := pos_ie hz
  have hA := encS_max sA
  have hB := encS_max sB
  obtain ⟨n, hn, hn0⟩ : ∃ n, cmpN A B = n ∧ n < 0 := ⟨_, rfl, cmp_neg ho⟩
  have h_ := fun w => Compare_any (encS A) (encS B) w hA hB
  simp only [cmpE sA sB, hn] at h_
  have HC := Lib.hid h_
  clear h_
  clear hn
  have h_ := fun w => add_loop (encS A) (encS B) w hA hB
  simp only [addL sA sB hs] at h_
  have HA := Lib.hid h_
  clear h_
  clear hs
  have h_ := fun w => Sub_any (encS A) (encS B) w hA hB
  simp only [subL sA sB ho] at h_
  have HT := Lib.hid h_
  clear h_
  have h_ := fun w => Mul_any (encS A) (encS B) w hA hB
  simp only [mulE sA sB hm] at h_
  have HM := Lib.hid h_
  clear h_
  have h_ := fun w => Div_any (encS (A * B)) (encS B) w (encS_max hm) hB
  simp only [divE hm sB hz, Nat.mul_div_cancel _ hz, Nat.mul_mod_left] at h_
  have HD := Lib.hid h_
  clear h_
  clear hm hz
  generalize A * B = Y at *
  clear ho
  go_enter Try.func8, Try.ntmps8
  have hbl : Below w.heap.size w w := Below.refl _ _
  go_wp2_with fail
  refine (sane_any _).mono ?_
  rintro e w1 ⟨rfl, hb⟩
  replace hbl := hbl.trans (hb.mono hbl.size)
  clear hb
  go_wp2_with fail
  refine (HC.out _).mono ?_
  rintro e w2 ⟨rfl, hb⟩
  replace hbl := hbl.trans (hb.mono hbl.size)
  clear hb
  go_wp2_with fail
  refine (HA.out _).mono ?_
  rintro e w3 ⟨rfl, hb⟩
  replace hbl := hbl.trans (hb.mono hbl.size)
  clear hb
  go_wp2_with fail
  refine (HT.out _).mono ?_
  rintro e w4 ⟨rfl, hb⟩
  replace hbl := hbl.trans (hb.mono hbl.size)
  clear hb
  go_wp2_with fail
  refine (HM.out _).mono ?_
  rintro e w5 ⟨rfl, hb⟩
  replace hbl := hbl.trans (hb.mono hbl.size)
  clear hb
  go_wp2_with fail
  refine (HD.out _).mono ?_
  rintro e w6 ⟨rfl, hb⟩
  replace hbl := hbl.trans (hb.mono hbl.size)
  clear hb
  go_wp2_with fail
  go_ret
  exact ⟨ret_bool encS0_empty, hbl⟩

set_option maxRecDepth 8000 in
set_option maxHeartbeats 2000000 in
theorem back_La_ge_L (A B : Nat) (w : World) (sA : Sm A) (sB : Sm B) (hs : ¬ Sm (A + B)) (hl : 255 ≤ (encS A).size) (ho : B ≤ A) (hm : ¬ Sm (A * B)) (hm2 : 256 < (encS A).size + (encS B).size) :
    Calls Try.prog 8 #[.string (encS A), .string (encS B)] w fun e w' => e = .returned (.bool true) ∧ Below w.heap.size w w' := by
  have hA := encS_max sA
  have hB := encS_max sB
  obtain ⟨n, hn, hn0⟩ : ∃ n, cmpN A B = n ∧ 0 ≤ n := ⟨_, rfl, cmp_pos ho⟩
  have h_ := fun w => Compare_any (encS A) (encS B) w hA hB
  simp only [cmpE sA sB, hn] at h_
  have HC := Lib.hid h_
  clear h_
  clear hn
  have h_ := fun w => add_loop (encS A) (encS B) w hA hB
  simp only [addL sA sB hs] at h_
  have HA := Lib.hid h_
  clear h_
  clear hs
  have h_ := fun w => Sub_any (encS A) (encS B) w hA hB
  simp only [subE sA sB ho] at h_
  have HT := Lib.hid h_
  clear h_
  have d1 : Sm (A - B) := sA.mono (Nat.sub_le A B)
  have d2 : A - B + B = A := Nat.sub_add_cancel ho
  have h_ := fun w => add_loop (encS (A - B)) (encS B) w (encS_max d1) hB
  simp only [addE d1 sB (by rw [d2]; exact sA), d2] at h_
  have HA2 := Lib.hid h_
  clear h_
  clear d1 d2
  generalize A - B = D at *
  have h_ := fun w => Mul_any (encS A) (encS B) w hA hB
  simp only [mulL sA sB hm] at h_
  have HM := Lib.hid h_
  clear h_
  clear hm
  clear ho
  go_enter Try.func8, Try.ntmps8
  have hbl : Below w.heap.size w w := Below.refl _ _
  go_wp2_with fail
  refine (sane_any _).mono ?_
  rintro e w1 ⟨rfl, hb⟩
  replace hbl := hbl.trans (hb.mono hbl.size)
  clear hb
  go_wp2_with fail
  refine (HC.out _).mono ?_
  rintro e w2 ⟨rfl, hb⟩
  replace hbl := hbl.trans (hb.mono hbl.size)
  clear hb
  go_wp2_with fail
  refine (HA.out _).mono ?_
  rintro e w3 ⟨rfl, hb⟩
  replace hbl := hbl.trans (hb.mono hbl.size)
  clear hb
  go_wp2_with fail
  refine (HT.out _).mono ?_
  rintro e w4 ⟨rfl, hb⟩
  replace hbl := hbl.trans (hb.mono hbl.size)
  clear hb
  go_wp2_with fail
  refine (HA2.out _).mono ?_
  rintro e w5 ⟨rfl, hb⟩
  replace hbl := hbl.trans (hb.mono hbl.size)
  clear hb
  go_wp2_with fail
  refine (HM.out _).mono ?_
  rintro e w6 ⟨rfl, hb⟩
  replace hbl := hbl.trans (hb.mono hbl.size)
  clear hb
  go_wp2_with fail
  go_ret
  exact ⟨ret_bool (wrap_big hm2 sA.size sB.size), hbl⟩

set_option maxRecDepth 8000 in
set_option maxHeartbeats 2000000 in
theorem back_La_ge_M (A B : Nat) (w : World) (sA : Sm A) (sB : Sm B) (hs : ¬ Sm (A + B)) (hl : 255 ≤ (encS A).size) (ho : B ≤ A) (hm : Sm (A * B)) (hz : 0 < B) :
    Calls Try.prog 8 #[.string (encS A), .string (encS B)] w fun e w' => e = .returned (.bool true) ∧ Below w.heap.size w w' := by
  have hBn := pos_ie hz
  have hA := encS_max sA
  have hB := encS_max sB
  obtain ⟨n, hn, hn0⟩ : ∃ n, cmpN A B = n ∧ 0 ≤ n := ⟨_, rfl, cmp_pos ho⟩
  have h_ := fun w => Compare_any (encS A) (encS B) w hA hB
  simp only [cmpE sA sB, hn] at h_
  have HC := Lib.hid h_
  clear h_
  clear hn
  have h_ := fun w => add_loop (encS A) (encS B) w hA hB
  simp only [addL sA sB hs] at h_
  have HA := Lib.hid h_
  clear h_
  clear hs
  have h_ := fun w => Sub_any (encS A) (encS B) w hA hB
  simp only [subE sA sB ho] at h_
  have HT := Lib.hid h_
  clear h_
  have d1 : Sm (A - B) := sA.mono (Nat.sub_le A B)
  have d2 : A - B + B = A := Nat.sub_add_cancel ho
  have h_ := fun w => add_loop (encS (A - B)) (encS B) w (encS_max d1) hB
  simp only [addE d1 sB (by rw [d2]; exact sA), d2] at h_
  have HA2 := Lib.hid h_
  clear h_
  clear d1 d2
  generalize A - B = D at *
  have h_ := fun w => Mul_any (encS A) (encS B) w hA hB
  simp only [mulE sA sB hm] at h_
  have HM := Lib.hid h_
  clear h_
  have h_ := fun w => Div_any (encS (A * B)) (encS B) w (encS_max hm) hB
  simp only [divE hm sB hz, Nat.mul_div_cancel _ hz, Nat.mul_mod_left] at h_
  have HD := Lib.hid h_
  clear h_
  clear hm hz
  generalize A * B = Y at *
  clear ho
  go_enter Try.func8, Try.ntmps8
  have hbl : Below w.heap.size w w := Below.refl _ _
  go_wp2_with fail
  refine (sane_any _).mono ?_
  rintro e w1 ⟨rfl, hb⟩
  replace hbl := hbl.trans (hb.mono hbl.size)
  clear hb
  go_wp2_with fail
  refine (HC.out _).mono ?_
  rintro e w2 ⟨rfl, hb⟩
  replace hbl := hbl.trans (hb.mono hbl.size)
  clear hb
  go_wp2_with fail
  refine (HA.out _).mono ?_
  rintro e w3 ⟨rfl, hb⟩
  replace hbl := hbl.trans (hb.mono hbl.size)
  clear hb
  go_wp2_with fail
  refine (HT.out _).mono ?_
  rintro e w4 ⟨rfl, hb⟩
  replace hbl := hbl.trans (hb.mono hbl.size)
  clear hb
  go_wp2_with fail
  refine (HA2.out _).mono ?_
  rintro e w5 ⟨rfl, hb⟩
  replace hbl := hbl.trans (hb.mono hbl.size)
  clear hb
  go_wp2_with fail
  refine (HM.out _).mono ?_
  rintro e w6 ⟨rfl, hb⟩
  replace hbl := hbl.trans (hb.mono hbl.size)
  clear hb
  go_wp2_with fail
  refine (HD.out _).mono ?_
  rintro e w7 ⟨rfl, hb⟩
  replace hbl := hbl.trans (hb.mono hbl.size)
  clear hb
  go_wp2_with fail
  go_ret
  exact ⟨ret_bool encS0_empty, hbl⟩

set_option maxRecDepth 8000 in
set_option maxHeartbeats 2000000 in
theorem back_Lb_lt_L (A B : Nat) (w : World) (sA : Sm A) (sB : Sm B) (hs : ¬ Sm (A + B)) (hl : (encS A).size < 255 ∧ 255 ≤ (encS B).size) (ho : A < B) (hm : ¬ Sm (A * B)) (hm2 : 256 < (encS A).size + (encS B).size) :
    Calls Try.prog 8 #[.string (encS A), .string (encS B)] w fun e w' => e = .returned (.bool true) ∧ Below w.heap.size w w' := by
  obtain ⟨hl, hl2⟩ := hl
  have hA := encS_max sA
  have hB := encS_max sB
  obtain ⟨n, hn, hn0⟩ : ∃ n, cmpN A B = n ∧ n < 0 := ⟨_, rfl, cmp_neg ho⟩
  have h_ := fun w => Compare_any (encS A) (encS B) w hA hB
  simp only [cmpE sA sB, hn] at h_
  have HC := Lib.hid h_
  clear h_
  clear hn
  have h_ := fun w => add_loop (encS A) (encS B) w hA hB
  simp only [addL sA sB hs] at h_
  have HA := Lib.hid h_
  clear h_
  clear hs
  have h_ := fun w => Sub_any (encS A) (encS B) w hA hB
  simp only [subL sA sB ho] at h_
  have HT := Lib.hid h_
  clear h_
  have h_ := fun w => Mul_any (encS A) (encS B) w hA hB
  simp only [mulL sA sB hm] at h_
  have HM := Lib.hid h_
  clear h_
  clear hm
  clear ho
  go_enter Try.func8, Try.ntmps8
  have hbl : Below w.heap.size w w := Below.refl _ _
  go_wp2_with fail
  refine (sane_any _).mono ?_
  rintro e w1 ⟨rfl, hb⟩
  replace hbl := hbl.trans (hb.mono hbl.size)
  clear hb
  go_wp2_with fail
  refine (HC.out _).mono ?_
  rintro e w2 ⟨rfl, hb⟩
  replace hbl := hbl.trans (hb.mono hbl.size)
  clear hb
  go_wp2_with fail
  refine (HA.out _).mono ?_
  rintro e w3 ⟨rfl, hb⟩
  replace hbl := hbl.trans (hb.mono hbl.size)
  clear hb
  go_wp2_with fail
  refine (HT.out _).mono ?_
  rintro e w4 ⟨rfl, hb⟩
  replace hbl := hbl.trans (hb.mono hbl.size)
  clear hb
  go_wp2_with fail
  refine (HM.out _).mono ?_
  rintro e w5 ⟨rfl, hb⟩
  replace hbl := hbl.trans (hb.mono hbl.size)
  clear hb
  go_wp2_with fail
  go_ret
  exact ⟨ret_bool (wrap_big hm2 sA.size sB.size), hbl⟩

set_option maxRecDepth 8000 in
set_option maxHeartbeats 2000000 in
theorem back_Lb_lt_M (A B : Nat) (w : World) (sA : Sm A) (sB : Sm B) (hs : ¬ Sm (A + B)) (hl : (encS A).size < 255 ∧ 255 ≤ (encS B).size) (ho : A < B) (hm : Sm (A * B)) (hz : 0 < B) :
    Calls Try.prog 8 #[.string (encS A), .string (encS B)] w fun e w' => e = .returned (.bool true) ∧ Below w.heap.size w w' := by
  have hBn := pos_ie hz
  obtain ⟨hl, hl2⟩ := hl
  have hA := encS_max sA
  have hB := encS_max sB
  obtain ⟨n, hn, hn0⟩ : ∃ n, cmpN A B = n ∧ n < 0 := ⟨_, rfl, cmp_neg ho⟩
  have h_ := fun w => Compare_any (encS A) (encS B) w hA hB
  simp only [cmpE sA sB, hn] at h_
  have HC := Lib.hid h_
  clear h_
  clear hn
  have h_ := fun w => add_loop (encS A) (encS B) w hA hB
  simp only [addL sA sB hs] at h_
  have HA := Lib.hid h_
  clear h_
  clear hs
  have h_ := fun w => Sub_any (encS A) (encS B) w hA hB
  simp only [subL sA sB ho] at h_
  have HT := Lib.hid h_
  clear h_
  have h_ := fun w => Mul_any (encS A) (encS B) w hA hB
  simp only [mulE sA sB hm] at h_
  have HM := Lib.hid h_
  clear h_
  have h_ := fun w => Div_any (encS (A * B)) (encS B) w (encS_max hm) hB
  simp only [divE hm sB hz, Nat.mul_div_cancel _ hz, Nat.mul_mod_left] at h_
  have HD := Lib.hid h_
  clear h_
  clear hm hz
  generalize A * B = Y at *
  clear ho
  go_enter Try.func8, Try.ntmps8
  have hbl : Below w.heap.size w w := Below.refl _ _
  go_wp2_with fail
  refine (sane_any _).mono ?_
  rintro e w1 ⟨rfl, hb⟩
  replace hbl := hbl.trans (hb.mono hbl.size)
  clear hb
  go_wp2_with fail
  refine (HC.out _).mono ?_
  rintro e w2 ⟨rfl, hb⟩
  replace hbl := hbl.trans (hb.mono hbl.size)
  clear hb
  go_wp2_with fail
  refine (HA.out _).mono ?_
  rintro e w3 ⟨rfl, hb⟩
  replace hbl := hbl.trans (hb.mono hbl.size)
  clear hb
  go_wp2_with fail
  refine (HT.out _).mono ?_
  rintro e w4 ⟨rfl, hb⟩
  replace hbl := hbl.trans (hb.mono hbl.size)
  clear hb
  go_wp2_with fail
  refine (HM.out _).mono ?_
  rintro e w5 ⟨rfl, hb⟩
  replace hbl := hbl.trans (hb.mono hbl.size)
  clear hb
  go_wp2_with fail
  refine (HD.out _).mono ?_
  rintro e w6 ⟨rfl, hb⟩
  replace hbl := hbl.trans (hb.mono hbl.size)
  clear hb
  go_wp2_with fail
  go_ret
  exact ⟨ret_bool encS0_empty, hbl⟩

set_option maxRecDepth 8000 in
set_option maxHeartbeats 2000000 in
theorem back_Lb_ge_L (A B : Nat) (w : World) (sA : Sm A) (sB : Sm B) (hs : ¬ Sm (A + B)) (hl : (encS A).size < 255 ∧ 255 ≤ (encS B).size) (ho : B ≤ A) (hm : ¬ Sm (A * B)) (hm2 : 256 < (encS A).size + (encS B).size) :
    Calls Try.prog 8 #[.string (encS A), .string (encS B)] w fun e w' => e = .returned (.bool true) ∧ Below w.heap.size w w' := by
  obtain ⟨hl, hl2⟩ := hl
  have hA := encS_max sA
  have hB := encS_max sB
  obtain ⟨n, hn, hn0⟩ : ∃ n, cmpN A B = n ∧ 0 ≤ n := ⟨_, rfl, cmp_pos ho⟩
  have h_ := fun w => Compare_any (encS A) (encS B) w hA hB
  simp only [cmpE sA sB, hn] at h_
  have HC := Lib.hid h_
  clear h_
  clear hn
  have h_ := fun w => add_loop (encS A) (encS B) w hA hB
  simp only [addL sA sB hs] at h_
  have HA := Lib.hid h_
  clear h_
  clear hs
  have h_ := fun w => Sub_any (encS A) (encS B) w hA hB
  simp only [subE sA sB ho] at h_
  have HT := Lib.hid h_
  clear h_
  have d1 : Sm (A - B) := sA.mono (Nat.sub_le A B)
  have d2 : A - B + B = A := Nat.sub_add_cancel ho
  have h_ := fun w => add_loop (encS (A - B)) (encS B) w (encS_max d1) hB
  simp only [addE d1 sB (by rw [d2]; exact sA), d2] at h_
  have HA2 := Lib.hid h_
  clear h_
  clear d1 d2
  generalize A - B = D at *
  have h_ := fun w => Mul_any (encS A) (encS B) w hA hB
  simp only [mulL sA sB hm] at h_
  have HM := Lib.hid h_
  clear h_
  clear hm
  clear ho
  go_enter Try.func8, Try.ntmps8
  have hbl : Below w.heap.size w w := Below.refl _ _
  go_wp2_with fail
  refine (sane_any _).mono ?_
  rintro e w1 ⟨rfl, hb⟩
  replace hbl := hbl.trans (hb.mono hbl.size)
  clear hb
  go_wp2_with fail
  refine (HC.out _).mono ?_
  rintro e w2 ⟨rfl, hb⟩
  replace hbl := hbl.trans (hb.mono hbl.size)
  clear hb
  go_wp2_with fail
  refine (HA.out _).mono ?_
  rintro e w3 ⟨rfl, hb⟩
  replace hbl := hbl.trans (hb.mono hbl.size)
  clear hb
  go_wp2_with fail
  refine (HT.out _).mono ?_
  rintro e w4 ⟨rfl, hb⟩
  replace hbl := hbl.trans (hb.mono hbl.size)
  clear hb
  go_wp2_with fail
  refine (HA2.out _).mono ?_
  rintro e w5 ⟨rfl, hb⟩
  replace hbl := hbl.trans (hb.mono hbl.size)
  clear hb
  go_wp2_with fail
  refine (HM.out _).mono ?_
  rintro e w6 ⟨rfl, hb⟩
  replace hbl := hbl.trans (hb.mono hbl.size)
  clear hb
  go_wp2_with fail
  go_ret
  exact ⟨ret_bool (wrap_big hm2 sA.size sB.size), hbl⟩

set_option maxRecDepth 8000 in
set_option maxHeartbeats 2000000 in
theorem back_Lb_ge_M (A B : Nat) (w : World) (sA : Sm A) (sB : Sm B) (hs : ¬ Sm (A + B)) (hl : (encS A).size < 255 ∧ 255 ≤ (encS B).size) (ho : B ≤ A) (hm : Sm (A * B)) (hz : 0 < B) :
    Calls Try.prog 8 #[.string (encS A), .string (encS B)] w fun e w' => e = .returned (.bool true) ∧ Below w.heap.size w w' := by
  have hBn := pos_ie hz
  obtain ⟨hl, hl2⟩ := hl
  have hA := encS_max sA
  have hB := encS_max sB
  obtain ⟨n, hn, hn0⟩ : ∃ n, cmpN A B = n ∧ 0 ≤ n := ⟨_, rfl, cmp_pos ho⟩
  have h_ := fun w => Compare_any (encS A) (encS B) w hA hB
  simp only [cmpE sA sB, hn] at h_
  have HC := Lib.hid h_
  clear h_
  clear hn
  have h_ := fun w => add_loop (encS A) (encS B) w hA hB
  simp only [addL sA sB hs] at h_
  have HA := Lib.hid h_
  clear h_
  clear hs
  have h_ := fun w => Sub_any (encS A) (encS B) w hA hB
  simp only [subE sA sB ho] at h_
  have HT := Lib.hid h_
  clear h_
  have d1 : Sm (A - B) := sA.mono (Nat.sub_le A B)
  have d2 : A - B + B = A := Nat.sub_add_cancel ho
  have h_ := fun w => add_loop (encS (A - B)) (encS B) w (encS_max d1) hB
  simp only [addE d1 sB (by rw [d2]; exact sA), d2] at h_
  have HA2 := Lib.hid h_
  clear h_
  clear d1 d2
  generalize A - B = D at *
  have h_ := fun w => Mul_any (encS A) (encS B) w hA hB
  simp only [mulE sA sB hm] at h_
  have HM := Lib.hid h_
  clear h_
  have h_ := fun w => Div_any (encS (A * B)) (encS B) w (encS_max hm) hB
  simp only [divE hm sB hz, Nat.mul_div_cancel _ hz, Nat.mul_mod_left] at h_
  have HD := Lib.hid h_
  clear h_
  clear hm hz
  generalize A * B = Y at *
  clear ho
  go_enter Try.func8, Try.ntmps8
  have hbl : Below w.heap.size w w := Below.refl _ _
  go_wp2_with fail
  refine (sane_any _).mono ?_
  rintro e w1 ⟨rfl, hb⟩
  replace hbl := hbl.trans (hb.mono hbl.size)
  clear hb
  go_wp2_with fail
  refine (HC.out _).mono ?_
  rintro e w2 ⟨rfl, hb⟩
  replace hbl := hbl.trans (hb.mono hbl.size)
  clear hb
  go_wp2_with fail
  refine (HA.out _).mono ?_
  rintro e w3 ⟨rfl, hb⟩
  replace hbl := hbl.trans (hb.mono hbl.size)
  clear hb
  go_wp2_with fail
  refine (HT.out _).mono ?_
  rintro e w4 ⟨rfl, hb⟩
  replace hbl := hbl.trans (hb.mono hbl.size)
  clear hb
  go_wp2_with fail
  refine (HA2.out _).mono ?_
  rintro e w5 ⟨rfl, hb⟩
  replace hbl := hbl.trans (hb.mono hbl.size)
  clear hb
  go_wp2_with fail
  refine (HM.out _).mono ?_
  rintro e w6 ⟨rfl, hb⟩
  replace hbl := hbl.trans (hb.mono hbl.size)
  clear hb
  go_wp2_with fail
  refine (HD.out _).mono ?_
  rintro e w7 ⟨rfl, hb⟩
  replace hbl := hbl.trans (hb.mono hbl.size)
  clear hb
  go_wp2_with fail
  go_ret
  exact ⟨ret_bool encS0_empty, hbl⟩

set_option maxRecDepth 8000 in
set_option maxHeartbeats 2000000 in
theorem back_bad2 (a b : ByteArray) (w : World) (ha : a.size ≤ maxLen) (hb : b.size ≤ maxLen) (k1 : chkN [a, b] = 2) :
    Calls Try.prog 8 #[.string a, .string b] w fun e w' => e = .returned (.bool true) ∧ Below w.heap.size w w' := by
  have hd : cmpF a b = (0, 2) := by rw [cmpF, if_neg (by rw [k1]; decide), k1]
  have h_ := fun w => Compare_any a b w ha hb
  simp only [hd] at h_
  have HC := Lib.hid h_
  clear h_
  clear hd k1
  go_enter Try.func8, Try.ntmps8
  have hbl : Below w.heap.size w w := Below.refl _ _
  go_wp2_with fail
  refine (sane_any _).mono ?_
  rintro e w1 ⟨rfl, hb⟩
  replace hbl := hbl.trans (hb.mono hbl.size)
  clear hb
  go_wp2_with fail
  refine (HC.out _).mono ?_
  rintro e w2 ⟨rfl, hb⟩
  replace hbl := hbl.trans (hb.mono hbl.size)
  clear hb
  go_wp2_with fail
  go_ret
  exact ⟨rfl, hbl⟩

set_option maxRecDepth 8000 in
set_option maxHeartbeats 2000000 in
theorem back_bad60 (a b : ByteArray) (w : World) (ha : a.size ≤ maxLen) (hb : b.size ≤ maxLen) (k1 : chkN [a, b] = 60) :
    Calls Try.prog 8 #[.string a, .string b] w fun e w' => e = .returned (.bool true) ∧ Below w.heap.size w w' := by
  have hd : cmpF a b = (0, 60) := by rw [cmpF, if_neg (by rw [k1]; decide), k1]
  have h_ := fun w => Compare_any a b w ha hb
  simp only [hd] at h_
  have HC := Lib.hid h_
  clear h_
  clear hd k1
  go_enter Try.func8, Try.ntmps8
  have hbl : Below w.heap.size w w := Below.refl _ _
  go_wp2_with fail
  refine (sane_any _).mono ?_
  rintro e w1 ⟨rfl, hb⟩
  replace hbl := hbl.trans (hb.mono hbl.size)
  clear hb
  go_wp2_with fail
  refine (HC.out _).mono ?_
  rintro e w2 ⟨rfl, hb⟩
  replace hbl := hbl.trans (hb.mono hbl.size)
  clear hb
  go_wp2_with fail
  go_ret
  exact ⟨rfl, hbl⟩

set_option maxRecDepth 8000 in
set_option maxHeartbeats 2000000 in
theorem naturalsBack_walk (a b : ByteArray) (w : World) (ha : a.size ≤ maxLen) (hb : b.size ≤ maxLen) :
    Calls Try.prog 8 #[.string a, .string b] w fun e w' => e = .returned (.bool true) ∧ Below w.heap.size w w' := by
  by_cases h : chkN [a, b] = 0
  · obtain ⟨n1, n2, s1, s2⟩ := chk2_zero h
    obtain ⟨ea, sA⟩ := natE n1 s1
    obtain ⟨eb, sB⟩ := natE n2 s2
    rw [ea, eb]
    by_cases hs : Sm (nv a + nv b)
    · skip
      by_cases ho : nv a < nv b
      · by_cases hm : Sm (nv a * nv b)
        · by_cases hz : 0 < nv b
          · exact back_S_lt_M _ _ w sA sB hs ho hm hz
          · omega
        · exact back_S_lt_L _ _ w sA sB hs ho hm (mul_big hm)
      · replace ho := Nat.le_of_not_lt ho
        by_cases hm : Sm (nv a * nv b)
        · by_cases hz : 0 < nv b
          · exact back_S_ge_M _ _ w sA sB hs ho hm hz
          · exact back_S_ge_Z _ _ w sA sB hs ho (by omega)
        · exact back_S_ge_L _ _ w sA sB hs ho hm (mul_big hm)
    · obtain hl | hl := add_big hs
      · skip
        by_cases ho : nv a < nv b
        · by_cases hm : Sm (nv a * nv b)
          · by_cases hz : 0 < nv b
            · exact back_La_lt_M _ _ w sA sB hs hl ho hm hz
            · omega
          · exact back_La_lt_L _ _ w sA sB hs hl ho hm (mul_big hm)
        · replace ho := Nat.le_of_not_lt ho
          by_cases hm : Sm (nv a * nv b)
          · by_cases hz : 0 < nv b
            · exact back_La_ge_M _ _ w sA sB hs hl ho hm hz
            · exact absurd (by rw [show nv b = 0 by omega]; exact sA) hs
          · exact back_La_ge_L _ _ w sA sB hs hl ho hm (mul_big hm)
      · skip
        by_cases ho : nv a < nv b
        · by_cases hm : Sm (nv a * nv b)
          · by_cases hz : 0 < nv b
            · exact back_Lb_lt_M _ _ w sA sB hs hl ho hm hz
            · omega
          · exact back_Lb_lt_L _ _ w sA sB hs hl ho hm (mul_big hm)
        · replace ho := Nat.le_of_not_lt ho
          by_cases hm : Sm (nv a * nv b)
          · by_cases hz : 0 < nv b
            · exact back_Lb_ge_M _ _ w sA sB hs hl ho hm hz
            · exact absurd (by rw [show nv b = 0 by omega]; exact sA) hs
          · exact back_Lb_ge_L _ _ w sA sB hs hl ho hm (mul_big hm)
  · obtain ⟨k1 | k1, _⟩ := chk_way h
    · exact back_bad2 a b w ha hb k1
    · exact back_bad60 a b w ha hb k1

end Go.Proofs.Ytlkpphoioocjeaa
