/-
  The laws of chapter 06: the walk of NaturalsRules.
-/
import Derived.Test.YtlkpphoioocjeaaLaw06
namespace Go.Proofs.Ytlkpphoioocjeaa
open Go.RowKit Nm

theorem encS1_eq : encS 1 = ⟨#[1]⟩ := by decide +kernel
set_option maxHeartbeats 400000 in
theorem calc_add (p : Nat) (x y s : ByteArray) (w : World) (hbox : Box w p 4 (.bool true))
    (hf : Hid (∀ w, Calls Try.prog 20 #[.string x, .string y] w fun e w' => e = .returned (.tuple #[.string s, .int .i64 0]) ∧ Below w.heap.size w w')) :
    Calls Try.prog 31 #[.func (.func 20) #[] #[], .string x, .string y, .pointer (some ⟨p, 0, none⟩)] w fun e w' => e = .returned (.string s) ∧ Box w' p 4 (.bool true) ∧ ∀ B, B ≤ p → Below B w w' := by
  have hlt := hbox.lt
  go_enter Try.func31, Try.ntmps31
  go_wp2_with fail
  refine (hf.out _).mono ?_
  rintro e w1 ⟨rfl, hb⟩
  replace hbox := hbox.below hb hlt
  have hc := hbox.cell
  have hfr := hbox.free
  go_wp2_with fail
  go_ret
  exact ⟨rfl, hbox.set _, fun B hB => (hb.mono (by omega)).setCell hB _⟩

set_option maxHeartbeats 400000 in
theorem calc_mul (p : Nat) (x y s : ByteArray) (w : World) (hbox : Box w p 4 (.bool true))
    (hf : Hid (∀ w, Calls Try.prog 24 #[.string x, .string y] w fun e w' => e = .returned (.tuple #[.string s, .int .i64 0]) ∧ Below w.heap.size w w')) :
    Calls Try.prog 31 #[.func (.func 24) #[] #[], .string x, .string y, .pointer (some ⟨p, 0, none⟩)] w fun e w' => e = .returned (.string s) ∧ Box w' p 4 (.bool true) ∧ ∀ B, B ≤ p → Below B w w' := by
  have hlt := hbox.lt
  go_enter Try.func31, Try.ntmps31
  go_wp2_with fail
  refine (hf.out _).mono ?_
  rintro e w1 ⟨rfl, hb⟩
  replace hbox := hbox.below hb hlt
  have hc := hbox.cell
  have hfr := hbox.free
  go_wp2_with fail
  go_ret
  exact ⟨rfl, hbox.set _, fun B hB => (hb.mono (by omega)).setCell hB _⟩

set_option maxRecDepth 8000 in
set_option maxHeartbeats 2000000 in
theorem rules_1 (a b c : ByteArray) (w : World) (ha : a.size ≤ maxLen) (hb : b.size ≤ maxLen) (hc : c.size ≤ maxLen) (h1 : 80 < a.size) :
    Calls Try.prog 7 #[.string a, .string b, .string c] w fun e w' => e = .returned (.bool true) ∧ Below w.heap.size w w' := by
  go_enter Try.func7, Try.ntmps7
  have hbl : Below w.heap.size w w := Below.refl _ _
  go_wp2_with fail
  refine (sane_any _).mono ?_
  rintro e w1 ⟨rfl, hb⟩
  replace hbl := hbl.trans (hb.mono hbl.size)
  clear hb
  go_wp2_with fail
  go_ret
  exact ⟨rfl, hbl⟩

set_option maxRecDepth 8000 in
set_option maxHeartbeats 2000000 in
theorem rules_2 (a b c : ByteArray) (w : World) (ha : a.size ≤ maxLen) (hb : b.size ≤ maxLen) (hc : c.size ≤ maxLen) (h1 : a.size ≤ 80) (h2 : 80 < b.size) :
    Calls Try.prog 7 #[.string a, .string b, .string c] w fun e w' => e = .returned (.bool true) ∧ Below w.heap.size w w' := by
  go_enter Try.func7, Try.ntmps7
  have hbl : Below w.heap.size w w := Below.refl _ _
  go_wp2_with fail
  refine (sane_any _).mono ?_
  rintro e w1 ⟨rfl, hb⟩
  replace hbl := hbl.trans (hb.mono hbl.size)
  clear hb
  go_wp2_with fail
  go_ret
  exact ⟨rfl, hbl⟩

set_option maxRecDepth 8000 in
set_option maxHeartbeats 2000000 in
theorem rules_3 (a b c : ByteArray) (w : World) (ha : a.size ≤ maxLen) (hb : b.size ≤ maxLen) (hc : c.size ≤ maxLen) (h1 : a.size ≤ 80) (h2 : b.size ≤ 80) (h3 : 80 < c.size) :
    Calls Try.prog 7 #[.string a, .string b, .string c] w fun e w' => e = .returned (.bool true) ∧ Below w.heap.size w w' := by
  go_enter Try.func7, Try.ntmps7
  have hbl : Below w.heap.size w w := Below.refl _ _
  go_wp2_with fail
  refine (sane_any _).mono ?_
  rintro e w1 ⟨rfl, hb⟩
  replace hbl := hbl.trans (hb.mono hbl.size)
  clear hb
  go_wp2_with fail
  go_ret
  exact ⟨rfl, hbl⟩

set_option maxRecDepth 8000 in
set_option maxHeartbeats 2000000 in
theorem rules_42 (a b c : ByteArray) (w : World) (ha : a.size ≤ maxLen) (hb : b.size ≤ maxLen) (hc : c.size ≤ maxLen) (h1 : a.size ≤ 80) (h2 : b.size ≤ 80) (h3 : c.size ≤ 80) (k1 : chkN [a] = 2) :
    Calls Try.prog 7 #[.string a, .string b, .string c] w fun e w' => e = .returned (.bool true) ∧ Below w.heap.size w w' := by
  have h_ := fun w => Check_any a w ha
  simp only [k1] at h_
  have H0 := Lib.hid h_
  clear h_
  clear k1
  go_enter Try.func7, Try.ntmps7
  have hbl : Below w.heap.size w w := Below.refl _ _
  go_wp2_with fail
  refine (sane_any _).mono ?_
  rintro e w1 ⟨rfl, hb⟩
  replace hbl := hbl.trans (hb.mono hbl.size)
  clear hb
  go_wp2_with fail
  refine (H0.out _).mono ?_
  rintro e w2 ⟨rfl, hb⟩
  replace hbl := hbl.trans (hb.mono hbl.size)
  clear hb
  go_wp2_with fail
  go_ret
  exact ⟨rfl, hbl⟩

set_option maxRecDepth 8000 in
set_option maxHeartbeats 2000000 in
theorem rules_52 (a b c : ByteArray) (w : World) (ha : a.size ≤ maxLen) (hb : b.size ≤ maxLen) (hc : c.size ≤ maxLen) (h1 : a.size ≤ 80) (h2 : b.size ≤ 80) (h3 : c.size ≤ 80) (k1 : chkN [a] = 0) (k2 : chkN [b] = 2) :
    Calls Try.prog 7 #[.string a, .string b, .string c] w fun e w' => e = .returned (.bool true) ∧ Below w.heap.size w w' := by
  have h_ := fun w => Check_any a w ha
  simp only [k1] at h_
  have H0 := Lib.hid h_
  clear h_
  clear k1
  have h_ := fun w => Check_any b w hb
  simp only [k2] at h_
  have H1 := Lib.hid h_
  clear h_
  clear k2
  go_enter Try.func7, Try.ntmps7
  have hbl : Below w.heap.size w w := Below.refl _ _
  go_wp2_with fail
  refine (sane_any _).mono ?_
  rintro e w1 ⟨rfl, hb⟩
  replace hbl := hbl.trans (hb.mono hbl.size)
  clear hb
  go_wp2_with fail
  refine (H0.out _).mono ?_
  rintro e w2 ⟨rfl, hb⟩
  replace hbl := hbl.trans (hb.mono hbl.size)
  clear hb
  go_wp2_with fail
  refine (H1.out _).mono ?_
  rintro e w3 ⟨rfl, hb⟩
  replace hbl := hbl.trans (hb.mono hbl.size)
  clear hb
  go_wp2_with fail
  go_ret
  exact ⟨rfl, hbl⟩

set_option maxRecDepth 8000 in
set_option maxHeartbeats 2000000 in
theorem rules_62 (a b c : ByteArray) (w : World) (ha : a.size ≤ maxLen) (hb : b.size ≤ maxLen) (hc : c.size ≤ maxLen) (h1 : a.size ≤ 80) (h2 : b.size ≤ 80) (h3 : c.size ≤ 80) (k1 : chkN [a] = 0) (k2 : chkN [b] = 0) (k3 : chkN [c] = 2) :
    Calls Try.prog 7 #[.string a, .string b, .string c] w fun e w' => e = .returned (.bool true) ∧ Below w.heap.size w w' := by
  have h_ := fun w => Check_any a w ha
  simp only [k1] at h_
  have H0 := Lib.hid h_
  clear h_
  clear k1
  have h_ := fun w => Check_any b w hb
  simp only [k2] at h_
  have H1 := Lib.hid h_
  clear h_
  clear k2
  have h_ := fun w => Check_any c w hc
  simp only [k3] at h_
  have H2 := Lib.hid h_
  clear h_
  clear k3
  go_enter Try.func7, Try.ntmps7
  have hbl : Below w.heap.size w w := Below.refl _ _
  go_wp2_with fail
  refine (sane_any _).mono ?_
  rintro e w1 ⟨rfl, hb⟩
  replace hbl := hbl.trans (hb.mono hbl.size)
  clear hb
  go_wp2_with fail
  refine (H0.out _).mono ?_
  rintro e w2 ⟨rfl, hb⟩
  replace hbl := hbl.trans (hb.mono hbl.size)
  clear hb
  go_wp2_with fail
  refine (H1.out _).mono ?_
  rintro e w3 ⟨rfl, hb⟩
  replace hbl := hbl.trans (hb.mono hbl.size)
  clear hb
  go_wp2_with fail
  refine (H2.out _).mono ?_
  rintro e w4 ⟨rfl, hb⟩
  replace hbl := hbl.trans (hb.mono hbl.size)
  clear hb
  go_wp2_with fail
  go_ret
  exact ⟨rfl, hbl⟩

set_option maxRecDepth 8000 in
set_option maxHeartbeats 2000000 in
theorem rules_460 (a b c : ByteArray) (w : World) (ha : a.size ≤ maxLen) (hb : b.size ≤ maxLen) (hc : c.size ≤ maxLen) (h1 : a.size ≤ 80) (h2 : b.size ≤ 80) (h3 : c.size ≤ 80) (k1 : chkN [a] = 60) :
    Calls Try.prog 7 #[.string a, .string b, .string c] w fun e w' => e = .returned (.bool true) ∧ Below w.heap.size w w' := by
  have h_ := fun w => Check_any a w ha
  simp only [k1] at h_
  have H0 := Lib.hid h_
  clear h_
  clear k1
  go_enter Try.func7, Try.ntmps7
  have hbl : Below w.heap.size w w := Below.refl _ _
  go_wp2_with fail
  refine (sane_any _).mono ?_
  rintro e w1 ⟨rfl, hb⟩
  replace hbl := hbl.trans (hb.mono hbl.size)
  clear hb
  go_wp2_with fail
  refine (H0.out _).mono ?_
  rintro e w2 ⟨rfl, hb⟩
  replace hbl := hbl.trans (hb.mono hbl.size)
  clear hb
  go_wp2_with fail
  go_ret
  exact ⟨rfl, hbl⟩

set_option maxRecDepth 8000 in
set_option maxHeartbeats 2000000 in
theorem rules_560 (a b c : ByteArray) (w : World) (ha : a.size ≤ maxLen) (hb : b.size ≤ maxLen) (hc : c.size ≤ maxLen) (h1 : a.size ≤ 80) (h2 : b.size ≤ 80) (h3 : c.size ≤ 80) (k1 : chkN [a] = 0) (k2 : chkN [b] = 60) :
    Calls Try.prog 7 #[.string a, .string b, .string c] w fun e w' => e = .returned (.bool true) ∧ Below w.heap.size w w' := by
  have h_ := fun w => Check_any a w ha
  simp only [k1] at h_
  have H0 := Lib.hid h_
  clear h_
  clear k1
  have h_ := fun w => Check_any b w hb
  simp only [k2] at h_
  have H1 := Lib.hid h_
  clear h_
  clear k2
  go_enter Try.func7, Try.ntmps7
  have hbl : Below w.heap.size w w := Below.refl _ _
  go_wp2_with fail
  refine (sane_any _).mono ?_
  rintro e w1 ⟨rfl, hb⟩
  replace hbl := hbl.trans (hb.mono hbl.size)
  clear hb
  go_wp2_with fail
  refine (H0.out _).mono ?_
  rintro e w2 ⟨rfl, hb⟩
  replace hbl := hbl.trans (hb.mono hbl.size)
  clear hb
  go_wp2_with fail
  refine (H1.out _).mono ?_
  rintro e w3 ⟨rfl, hb⟩
  replace hbl := hbl.trans (hb.mono hbl.size)
  clear hb
  go_wp2_with fail
  go_ret
  exact ⟨rfl, hbl⟩

set_option maxRecDepth 8000 in
set_option maxHeartbeats 2000000 in
theorem rules_660 (a b c : ByteArray) (w : World) (ha : a.size ≤ maxLen) (hb : b.size ≤ maxLen) (hc : c.size ≤ maxLen) (h1 : a.size ≤ 80) (h2 : b.size ≤ 80) (h3 : c.size ≤ 80) (k1 : chkN [a] = 0) (k2 : chkN [b] = 0) (k3 : chkN [c] = 60) :
    Calls Try.prog 7 #[.string a, .string b, .string c] w fun e w' => e = .returned (.bool true) ∧ Below w.heap.size w w' := by
  have h_ := fun w => Check_any a w ha
  simp only [k1] at h_
  have H0 := Lib.hid h_
  clear h_
  clear k1
  have h_ := fun w => Check_any b w hb
  simp only [k2] at h_
  have H1 := Lib.hid h_
  clear h_
  clear k2
  have h_ := fun w => Check_any c w hc
  simp only [k3] at h_
  have H2 := Lib.hid h_
  clear h_
  clear k3
  go_enter Try.func7, Try.ntmps7
  have hbl : Below w.heap.size w w := Below.refl _ _
  go_wp2_with fail
  refine (sane_any _).mono ?_
  rintro e w1 ⟨rfl, hb⟩
  replace hbl := hbl.trans (hb.mono hbl.size)
  clear hb
  go_wp2_with fail
  refine (H0.out _).mono ?_
  rintro e w2 ⟨rfl, hb⟩
  replace hbl := hbl.trans (hb.mono hbl.size)
  clear hb
  go_wp2_with fail
  refine (H1.out _).mono ?_
  rintro e w3 ⟨rfl, hb⟩
  replace hbl := hbl.trans (hb.mono hbl.size)
  clear hb
  go_wp2_with fail
  refine (H2.out _).mono ?_
  rintro e w4 ⟨rfl, hb⟩
  replace hbl := hbl.trans (hb.mono hbl.size)
  clear hb
  go_wp2_with fail
  go_ret
  exact ⟨rfl, hbl⟩

set_option maxRecDepth 8000 in
set_option maxHeartbeats 4000000 in
theorem rules_main (A B C : Nat) (w : World) (hA : (encS A).size ≤ 80) (hB : (encS B).size ≤ 80) (hC : (encS C).size ≤ 80) :
    Calls Try.prog 7 #[.string (encS A), .string (encS B), .string (encS C)] w fun e w' => e = .returned (.bool true) ∧ Below w.heap.size w w' := by
  have gA := hA
  have gB := hB
  have gC := hC
  rw [size_encS] at gA gB gC
  have sA : Sm A := Nat.le_trans gA (by decide)
  have sB : Sm B := Nat.le_trans gB (by decide)
  have sC : Sm C := Nat.le_trans gC (by decide)
  have lab : (enc (A + B)).length ≤ 81 := enc_len_add A B 80 gA gB
  have lbc : (enc (B + C)).length ≤ 81 := enc_len_add B C 80 gB gC
  have mab := enc_len_mul A B
  have mbc := enc_len_mul B C
  have mac := enc_len_mul A C
  have mabc := enc_len_mul (A * B) C
  have max := enc_len_mul A (B + C)
  have sab : Sm (A + B) := Nat.le_trans lab (by decide)
  have sbc : Sm (B + C) := Nat.le_trans lbc (by decide)
  have sabc : Sm (A + B + C) := Nat.le_trans (enc_len_add (A + B) C 81 lab (by omega)) (by decide)
  have pab : Sm (A * B) := by show (enc (A * B)).length ≤ 256; omega
  have pbc : Sm (B * C) := by show (enc (B * C)).length ≤ 256; omega
  have pac : Sm (A * C) := by show (enc (A * C)).length ≤ 256; omega
  have pabc : Sm (A * B * C) := by show (enc (A * B * C)).length ≤ 256; omega
  have px : Sm (A * (B + C)) := by show (enc (A * (B + C))).length ≤ 256; omega
  have s1 : Sm 1 := by show (enc 1).length ≤ 256; decide +kernel
  have s0 : Sm 0 := by show (enc 0).length ≤ 256; decide +kernel
  clear lab lbc mab mbc mac mabc max gA gB gC
  have h_ := fun w => Check_any (encS A) w (encS_max sA)
  simp only [chkE1 sA] at h_
  have HA := Lib.hid h_
  clear h_
  have h_ := fun w => Check_any (encS B) w (encS_max sB)
  simp only [chkE1 sB] at h_
  have HB := Lib.hid h_
  clear h_
  have h_ := fun w => Check_any (encS C) w (encS_max sC)
  simp only [chkE1 sC] at h_
  have HC := Lib.hid h_
  clear h_
  have h_ := fun w => add_loop (encS (A)) (encS (B)) w (encS_max sA) (encS_max sB)
  simp only [addE sA sB sab] at h_
  have A1 := Lib.hid h_
  clear h_
  have h_ := fun w => add_loop (encS (B)) (encS (A)) w (encS_max sB) (encS_max sA)
  simp only [addE sB sA (by rw [Nat.add_comm]; exact sab), Nat.add_comm B A] at h_
  have A2 := Lib.hid h_
  clear h_
  have h_ := fun w => Mul_any (encS (A)) (encS (B)) w (encS_max sA) (encS_max sB)
  simp only [mulE sA sB pab] at h_
  have M1 := Lib.hid h_
  clear h_
  have h_ := fun w => Mul_any (encS (B)) (encS (A)) w (encS_max sB) (encS_max sA)
  simp only [mulE sB sA (by rw [Nat.mul_comm]; exact pab), Nat.mul_comm B A] at h_
  have M2 := Lib.hid h_
  clear h_
  have h_ := fun w => add_loop (encS (A + B)) (encS (C)) w (encS_max sab) (encS_max sC)
  simp only [addE sab sC sabc] at h_
  have A3 := Lib.hid h_
  clear h_
  have h_ := fun w => add_loop (encS (B)) (encS (C)) w (encS_max sB) (encS_max sC)
  simp only [addE sB sC sbc] at h_
  have A4 := Lib.hid h_
  clear h_
  have h_ := fun w => add_loop (encS (A)) (encS (B + C)) w (encS_max sA) (encS_max sbc)
  simp only [addE sA sbc (by rw [← Nat.add_assoc]; exact sabc), ← Nat.add_assoc A B C] at h_
  have A5 := Lib.hid h_
  clear h_
  have h_ := fun w => Mul_any (encS (A * B)) (encS (C)) w (encS_max pab) (encS_max sC)
  simp only [mulE pab sC pabc] at h_
  have M3 := Lib.hid h_
  clear h_
  have h_ := fun w => Mul_any (encS (B)) (encS (C)) w (encS_max sB) (encS_max sC)
  simp only [mulE sB sC pbc] at h_
  have M4 := Lib.hid h_
  clear h_
  have h_ := fun w => Mul_any (encS (A)) (encS (B * C)) w (encS_max sA) (encS_max pbc)
  simp only [mulE sA pbc (by rw [← Nat.mul_assoc]; exact pabc), ← Nat.mul_assoc A B C] at h_
  have M5 := Lib.hid h_
  clear h_
  have h_ := fun w => Mul_any (encS (A)) (encS (B + C)) w (encS_max sA) (encS_max sbc)
  simp only [mulE sA sbc px] at h_
  have M6 := Lib.hid h_
  clear h_
  have h_ := fun w => Mul_any (encS (A)) (encS (C)) w (encS_max sA) (encS_max sC)
  simp only [mulE sA sC pac] at h_
  have M7 := Lib.hid h_
  clear h_
  have h_ := fun w => add_loop (encS (A * B)) (encS (A * C)) w (encS_max pab) (encS_max pac)
  simp only [addE pab pac (by rw [← Nat.mul_add]; exact px), ← Nat.mul_add A B C] at h_
  have A6 := Lib.hid h_
  clear h_
  have sA0 : Sm (A + 0) := sA
  have sA1 : Sm (A * 1) := by rw [Nat.mul_one]; exact sA
  have pA0 : Sm (A * 0) := s0
  have h_ := fun w => add_loop (encS (A)) (encS (0)) w (encS_max sA) (encS_max s0)
  simp only [addE sA s0 sA0, Nat.add_zero] at h_
  have A7 := Lib.hid h_
  clear h_
  have h_ := fun w => Mul_any (encS (A)) (encS (1)) w (encS_max sA) (encS_max s1)
  simp only [mulE sA s1 sA1, Nat.mul_one] at h_
  have M8 := Lib.hid h_
  clear h_
  have h_ := fun w => Mul_any (encS (A)) (encS (0)) w (encS_max sA) (encS_max s0)
  simp only [mulE sA s0 pA0, Nat.mul_zero] at h_
  have M9 := Lib.hid h_
  clear h_
  rw [encS0_eq] at A7 M9
  rw [encS1_eq] at M8
  clear sab sbc sabc pab pbc pac pabc px s1 s0 sA0 sA1 pA0 sA sB sC
  generalize A * (B + C) = X at *
  generalize A + B + C = S1 at *
  generalize A + B = S2 at *
  generalize B + C = S3 at *
  generalize A * B * C = P1 at *
  generalize A * B = P2 at *
  generalize B * C = P3 at *
  generalize A * C = P4 at *
  go_enter Try.func7, Try.ntmps7
  have hbl : Below w.heap.size w w := Below.refl _ _
  go_wp2_with fail
  refine (sane_any _).mono ?_
  rintro e w1 ⟨rfl, hb⟩
  replace hbl := hbl.trans (hb.mono hbl.size)
  clear hb
  go_wp2_with fail
  refine (HA.out _).mono ?_
  rintro e w2 ⟨rfl, hb⟩
  replace hbl := hbl.trans (hb.mono hbl.size)
  clear hb
  go_wp2_with fail
  refine (HB.out _).mono ?_
  rintro e w3 ⟨rfl, hb⟩
  replace hbl := hbl.trans (hb.mono hbl.size)
  clear hb
  go_wp2_with fail
  refine (HC.out _).mono ?_
  rintro e w4 ⟨rfl, hb⟩
  replace hbl := hbl.trans (hb.mono hbl.size)
  clear hb
  go_wp2_with fail
  refine (calc_add _ _ _ _ _ (Box.new _ _ _) A1).mono ?_
  rintro e w5 ⟨rfl, hbox, hb⟩
  have hsz := hbl.size
  replace hbl := (hbl.alloc hsz (.cells #[.bool true] 4)).trans (hb _ hsz)
  generalize w4.heap.size = p at *
  clear hb
  go_wp2_with fail
  refine (calc_add _ _ _ _ _ hbox A2).mono ?_
  clear hbox
  rintro e w6 ⟨rfl, hbox, hb⟩
  replace hbl := hbl.trans (hb _ hsz)
  clear hb
  go_wp2_with fail
  refine (calc_mul _ _ _ _ _ hbox M1).mono ?_
  clear hbox
  rintro e w7 ⟨rfl, hbox, hb⟩
  replace hbl := hbl.trans (hb _ hsz)
  clear hb
  go_wp2_with fail
  refine (calc_mul _ _ _ _ _ hbox M2).mono ?_
  clear hbox
  rintro e w8 ⟨rfl, hbox, hb⟩
  replace hbl := hbl.trans (hb _ hsz)
  clear hb
  go_wp2_with fail
  refine (calc_add _ _ _ _ _ hbox A1).mono ?_
  clear hbox
  rintro e w9 ⟨rfl, hbox, hb⟩
  replace hbl := hbl.trans (hb _ hsz)
  clear hb
  go_wp2_with fail
  refine (calc_add _ _ _ _ _ hbox A3).mono ?_
  clear hbox
  rintro e w10 ⟨rfl, hbox, hb⟩
  replace hbl := hbl.trans (hb _ hsz)
  clear hb
  go_wp2_with fail
  refine (calc_add _ _ _ _ _ hbox A4).mono ?_
  clear hbox
  rintro e w11 ⟨rfl, hbox, hb⟩
  replace hbl := hbl.trans (hb _ hsz)
  clear hb
  go_wp2_with fail
  refine (calc_add _ _ _ _ _ hbox A5).mono ?_
  clear hbox
  rintro e w12 ⟨rfl, hbox, hb⟩
  replace hbl := hbl.trans (hb _ hsz)
  clear hb
  go_wp2_with fail
  refine (calc_mul _ _ _ _ _ hbox M1).mono ?_
  clear hbox
  rintro e w13 ⟨rfl, hbox, hb⟩
  replace hbl := hbl.trans (hb _ hsz)
  clear hb
  go_wp2_with fail
  refine (calc_mul _ _ _ _ _ hbox M3).mono ?_
  clear hbox
  rintro e w14 ⟨rfl, hbox, hb⟩
  replace hbl := hbl.trans (hb _ hsz)
  clear hb
  go_wp2_with fail
  refine (calc_mul _ _ _ _ _ hbox M4).mono ?_
  clear hbox
  rintro e w15 ⟨rfl, hbox, hb⟩
  replace hbl := hbl.trans (hb _ hsz)
  clear hb
  go_wp2_with fail
  refine (calc_mul _ _ _ _ _ hbox M5).mono ?_
  clear hbox
  rintro e w16 ⟨rfl, hbox, hb⟩
  replace hbl := hbl.trans (hb _ hsz)
  clear hb
  go_wp2_with fail
  refine (calc_add _ _ _ _ _ hbox A4).mono ?_
  clear hbox
  rintro e w17 ⟨rfl, hbox, hb⟩
  replace hbl := hbl.trans (hb _ hsz)
  clear hb
  go_wp2_with fail
  refine (calc_mul _ _ _ _ _ hbox M6).mono ?_
  clear hbox
  rintro e w18 ⟨rfl, hbox, hb⟩
  replace hbl := hbl.trans (hb _ hsz)
  clear hb
  go_wp2_with fail
  refine (calc_mul _ _ _ _ _ hbox M1).mono ?_
  clear hbox
  rintro e w19 ⟨rfl, hbox, hb⟩
  replace hbl := hbl.trans (hb _ hsz)
  clear hb
  go_wp2_with fail
  refine (calc_mul _ _ _ _ _ hbox M7).mono ?_
  clear hbox
  rintro e w20 ⟨rfl, hbox, hb⟩
  replace hbl := hbl.trans (hb _ hsz)
  clear hb
  go_wp2_with fail
  refine (calc_add _ _ _ _ _ hbox A6).mono ?_
  clear hbox
  rintro e w21 ⟨rfl, hbox, hb⟩
  replace hbl := hbl.trans (hb _ hsz)
  clear hb
  go_wp2_with fail
  refine (calc_add _ _ _ _ _ hbox A7).mono ?_
  clear hbox
  rintro e w22 ⟨rfl, hbox, hb⟩
  replace hbl := hbl.trans (hb _ hsz)
  clear hb
  go_wp2_with fail
  refine (calc_mul _ _ _ _ _ hbox M8).mono ?_
  clear hbox
  rintro e w23 ⟨rfl, hbox, hb⟩
  replace hbl := hbl.trans (hb _ hsz)
  clear hb
  go_wp2_with fail
  refine (calc_mul _ _ _ _ _ hbox M9).mono ?_
  clear hbox
  rintro e w24 ⟨rfl, hbox, hb⟩
  replace hbl := hbl.trans (hb _ hsz)
  clear hb
  have hcl := hbox.cell
  go_wp2_with fail
  go_ret
  exact ⟨rfl, hbl⟩

set_option maxRecDepth 8000 in
set_option maxHeartbeats 2000000 in
theorem naturalsRules_walk (a b c : ByteArray) (w : World) (ha : a.size ≤ maxLen) (hb : b.size ≤ maxLen) (hc : c.size ≤ maxLen)  :
    Calls Try.prog 7 #[.string a, .string b, .string c] w fun e w' => e = .returned (.bool true) ∧ Below w.heap.size w w' := by
  by_cases h1 : a.size ≤ 80
  · by_cases h2 : b.size ≤ 80
    · by_cases h3 : c.size ≤ 80
      · by_cases k1 : chkN [a] = 0
        · by_cases k2 : chkN [b] = 0
          · by_cases k3 : chkN [c] = 0
            · obtain ⟨ea, _⟩ := natE (chk_one k1).1 (chk_one k1).2
              obtain ⟨eb, _⟩ := natE (chk_one k2).1 (chk_one k2).2
              obtain ⟨ec, _⟩ := natE (chk_one k3).1 (chk_one k3).2
              rw [ea] at h1 ⊢
              rw [eb] at h2 ⊢
              rw [ec] at h3 ⊢
              exact rules_main _ _ _ w h1 h2 h3
            · obtain k3 | k3 := chk_bad k3
              · exact rules_62 a b c w ha hb hc h1 h2 h3 k1 k2 k3
              · exact rules_660 a b c w ha hb hc h1 h2 h3 k1 k2 k3
          · obtain k2 | k2 := chk_bad k2
            · exact rules_52 a b c w ha hb hc h1 h2 h3 k1 k2
            · exact rules_560 a b c w ha hb hc h1 h2 h3 k1 k2
        · obtain k1 | k1 := chk_bad k1
          · exact rules_42 a b c w ha hb hc h1 h2 h3 k1
          · exact rules_460 a b c w ha hb hc h1 h2 h3 k1
      · exact rules_3 a b c w ha hb hc h1 h2 (by omega)
    · exact rules_2 a b c w ha hb hc h1 (by omega)
  · exact rules_1 a b c w ha hb hc (by omega)

end Go.Proofs.Ytlkpphoioocjeaa
