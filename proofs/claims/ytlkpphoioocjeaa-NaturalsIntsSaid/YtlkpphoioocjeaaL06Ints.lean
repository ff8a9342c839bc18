/-
  The laws of chapter 06: the walk of NaturalsInts.
-/
import Derived.Test.YtlkpphoioocjeaaLaw06
namespace Go.Proofs.Ytlkpphoioocjeaa
open Go.RowKit Nm

theorem intE {N : Nat} (h : N < 9223372036854775808) : intF (encS N) = (↑N, true) := by
  have h8 : (encS N).size ≤ 8 := by
    rw [size_encS, enc_length_le]
    exact Nat.lt_trans h (by decide)
  rw [intF, if_pos ⟨isN_encS N, h8, by rw [nv_encS]; exact h⟩, nv_encS]
theorem sm63 {N : Nat} (h : N < 9223372036854775808) : Sm N := by
  show (enc N).length ≤ 256
  rw [enc_length_le]
  exact Nat.lt_of_lt_of_le h (Nat.le_trans (show 9223372036854775808 ≤ 256 ^ 8 by decide) (Nat.pow_le_pow_right (by decide) (by decide)))
theorem Int_c (N : Nat) (w : World) (h : N < 9223372036854775808) :
    Calls Try.prog 14 #[.string (encS N)] w fun e w' => e = .returned (.tuple #[.int .i64 ↑N, .bool true]) ∧ Below w.heap.size w w' := by
  have h1 := Int_any (encS N) w (encS_max (sm63 h))
  rw [intE h] at h1
  exact h1.mono fun e w' ⟨h1, h2⟩ => ⟨h1, h2 ▸ Below.refl _ _⟩
theorem ofE (N : Nat) : ofF ↑N = (encS N, 0) := by
  rw [ofF, if_neg (by omega)]
  rfl
theorem ofN {n : Int} (h : n < 0) : ofF n = (bE, 1) := if_pos h
set_option maxHeartbeats 400000 in
theorem is_c (N : Nat) (want : Int) (w : World) (h : N < 9223372036854775808) (hw : want = ↑N) :
    Calls Try.prog 33 #[.string (encS N), .int .i64 0, .int .i64 want] w fun e w' => e = .returned (.bool true) ∧ Below w.heap.size w w' := by
  subst hw
  have HI := Lib.hid (fun w => Int_c N w h)
  go_enter Try.func33, Try.ntmps33
  have hbl : Below w.heap.size w w := Below.refl _ _
  go_wp2_with fail
  refine (HI.out _).mono ?_
  rintro e w1 ⟨rfl, hb⟩
  replace hbl := hbl.trans (hb.mono hbl.size)
  clear hb
  go_wp2_with fail
  go_ret
  exact ⟨rfl, hbl⟩

theorem ofE' {n : Int} {N : Nat} (h : n = ↑N) : ofF n = (encS N, 0) := by rw [h]; exact ofE N
theorem Int_c' (n : Int) (N : Nat) (w : World) (h : N < 9223372036854775808) (hn : n = ↑N) :
    Calls Try.prog 14 #[.string (encS N)] w fun e w' => e = .returned (.tuple #[.int .i64 n, .bool true]) ∧ Below w.heap.size w w' := by
  rw [hn]
  exact Int_c N w h
theorem want_add {n m : Int} {N M : Nat} (hn : Hid (n = ↑N)) (hm : Hid (m = ↑M)) (_hN : N < 2147483648) (_hM : M < 2147483648) : wrap64 (n + m) = ↑(N + M) := by
  rw [hn.out, hm.out]
  unfold wrap64
  omega
theorem want_add' {n m : Int} {N M : Nat} (hn : Hid (n = ↑N)) (hm : Hid (m = ↑M)) : n + m = ↑(N + M) := by rw [hn.out, hm.out]; omega
theorem want_mul {n m : Int} {N M : Nat} (hn : Hid (n = ↑N)) (hm : Hid (m = ↑M)) (h : N * M < 4611686018427387904) : wrap64 (n * m) = ↑(N * M) := by
  rw [hn.out, hm.out, ← Int.natCast_mul]
  generalize N * M = P at *
  unfold wrap64
  omega
theorem want_div {n m : Int} {N M : Nat} (hn : Hid (n = ↑N)) (hm : Hid (m = ↑M)) : Int.tdiv n m = ↑(N / M) := by rw [hn.out, hm.out]; exact int_div_nat N M
theorem want_div' {n m : Int} {N M : Nat} (hn : Hid (n = ↑N)) (hm : Hid (m = ↑M)) : n / m = ↑(N / M) := by rw [hn.out, hm.out]; exact (Int.natCast_ediv N M).symm
theorem want_mod' {n m : Int} {N M : Nat} (hn : Hid (n = ↑N)) (hm : Hid (m = ↑M)) : n % m = ↑(N % M) := by rw [hn.out, hm.out]; exact (Int.natCast_emod N M).symm
theorem want_mod {n m : Int} {N M : Nat} (hn : Hid (n = ↑N)) (hm : Hid (m = ↑M)) : Int.tmod n m = ↑(N % M) := by rw [hn.out, hm.out]; exact int_mod_nat N M
theorem lt63 {N : Nat} (h : Hid (N < 2147483648)) : N < 9223372036854775808 := Nat.lt_trans h.out (by decide)

set_option maxRecDepth 8000 in
set_option maxHeartbeats 2000000 in
theorem ints_nn (n m : Int) (w : World) (n1 : -9223372036854775808 ≤ n) (n2 : n < 9223372036854775808) (m1 : -9223372036854775808 ≤ m) (m2 : m < 9223372036854775808) (h1 : n < 0) (h2 : m < 0) :
    Calls Try.prog 10 #[.int .i64 n, .int .i64 m] w fun e w' => e = .returned (.bool true) ∧ Below w.heap.size w w' := by
  have hE := bE_nil
  have h_ := fun w => Of_any n w n1 (by omega)
  simp only [ofN h1] at h_
  have HN := Lib.hid h_
  clear h_
  have h_ := fun w => Of_any m w m1 (by omega)
  simp only [ofN h2] at h_
  have HM := Lib.hid h_
  clear h_
  go_enter Try.func10, Try.ntmps10
  have hbl : Below w.heap.size w w := Below.refl _ _
  go_wp2_with fail
  refine (sane_any _).mono ?_
  rintro e w1 ⟨rfl, hb⟩
  replace hbl := hbl.trans (hb.mono hbl.size)
  clear hb
  go_wp2_with fail
  refine (HN.out _).mono ?_
  rintro e w2 ⟨rfl, hb⟩
  replace hbl := hbl.trans (hb.mono hbl.size)
  clear hb
  go_wp2_with fail
  refine (HM.out _).mono ?_
  rintro e w3 ⟨rfl, hb⟩
  replace hbl := hbl.trans (hb.mono hbl.size)
  clear hb
  go_wp2_with fail
  go_ret
  exact ⟨rfl, hbl⟩

set_option maxRecDepth 8000 in
set_option maxHeartbeats 2000000 in
theorem ints_np (n m : Int) (w : World) (n1 : -9223372036854775808 ≤ n) (n2 : n < 9223372036854775808) (m1 : -9223372036854775808 ≤ m) (m2 : m < 9223372036854775808) (h1 : n < 0) (h2 : 0 ≤ m) :
    Calls Try.prog 10 #[.int .i64 n, .int .i64 m] w fun e w' => e = .returned (.bool true) ∧ Below w.heap.size w w' := by
  obtain ⟨M, rfl⟩ := Int.eq_ofNat_of_zero_le h2
  have hE := bE_nil
  have h_ := fun w => Of_any n w n1 (by omega)
  simp only [ofN h1] at h_
  have HN := Lib.hid h_
  clear h_
  have h_ := fun w => Of_any (↑M) w m1 (by omega)
  simp only [ofE] at h_
  have HM := Lib.hid h_
  clear h_
  go_enter Try.func10, Try.ntmps10
  have hbl : Below w.heap.size w w := Below.refl _ _
  go_wp2_with fail
  refine (sane_any _).mono ?_
  rintro e w1 ⟨rfl, hb⟩
  replace hbl := hbl.trans (hb.mono hbl.size)
  clear hb
  go_wp2_with fail
  refine (HN.out _).mono ?_
  rintro e w2 ⟨rfl, hb⟩
  replace hbl := hbl.trans (hb.mono hbl.size)
  clear hb
  go_wp2_with fail
  refine (HM.out _).mono ?_
  rintro e w3 ⟨rfl, hb⟩
  replace hbl := hbl.trans (hb.mono hbl.size)
  clear hb
  go_wp2_with fail
  go_ret
  exact ⟨rfl, hbl⟩

set_option maxRecDepth 8000 in
set_option maxHeartbeats 2000000 in
theorem ints_pn (n m : Int) (w : World) (n1 : -9223372036854775808 ≤ n) (n2 : n < 9223372036854775808) (m1 : -9223372036854775808 ≤ m) (m2 : m < 9223372036854775808) (h1 : 0 ≤ n) (h2 : m < 0) :
    Calls Try.prog 10 #[.int .i64 n, .int .i64 m] w fun e w' => e = .returned (.bool true) ∧ Below w.heap.size w w' := by
  obtain ⟨N, rfl⟩ := Int.eq_ofNat_of_zero_le h1
  have hE := bE_nil
  have h_ := fun w => Of_any (↑N) w n1 (by omega)
  simp only [ofE] at h_
  have HN := Lib.hid h_
  clear h_
  have h_ := fun w => Of_any m w m1 (by omega)
  simp only [ofN h2] at h_
  have HM := Lib.hid h_
  clear h_
  go_enter Try.func10, Try.ntmps10
  have hbl : Below w.heap.size w w := Below.refl _ _
  go_wp2_with fail
  refine (sane_any _).mono ?_
  rintro e w1 ⟨rfl, hb⟩
  replace hbl := hbl.trans (hb.mono hbl.size)
  clear hb
  go_wp2_with fail
  refine (HN.out _).mono ?_
  rintro e w2 ⟨rfl, hb⟩
  replace hbl := hbl.trans (hb.mono hbl.size)
  clear hb
  go_wp2_with fail
  refine (HM.out _).mono ?_
  rintro e w3 ⟨rfl, hb⟩
  replace hbl := hbl.trans (hb.mono hbl.size)
  clear hb
  go_wp2_with fail
  go_ret
  exact ⟨rfl, hbl⟩

set_option maxRecDepth 8000 in
set_option maxHeartbeats 2000000 in
theorem ints_b1 (n m : Int) (N M : Nat) (w : World) (hn : n = ↑N) (hm : m = ↑M) (i1 : n < 9223372036854775808) (i2 : m < 9223372036854775808) (i3 : 2147483648 ≤ n) :
    Calls Try.prog 10 #[.int .i64 n, .int .i64 m] w fun e w' => e = .returned (.bool true) ∧ Below w.heap.size w w' := by
  have sN := sm63 (show N < 9223372036854775808 by omega)
  have sM := sm63 (show M < 9223372036854775808 by omega)
  have h_ := fun w => Of_any n w (by omega) (by omega)
  simp only [ofE' hn] at h_
  have HN := Lib.hid h_
  clear h_
  have h_ := fun w => Of_any m w (by omega) (by omega)
  simp only [ofE' hm] at h_
  have HM := Lib.hid h_
  clear h_
  have HI := Lib.hid (fun w => Int_c' n N w (by omega) hn)
  have h_ := fun w => Check_any (encS N) w (encS_max sN)
  simp only [chkE1 sN] at h_
  have HK := Lib.hid h_
  clear h_
  have i7 : 0 ≤ n := by omega
  have i8 : 0 ≤ m := by omega
  replace hn := Lib.hid hn
  replace hm := Lib.hid hm
  clear sN sM
  go_enter Try.func10, Try.ntmps10
  have hbl : Below w.heap.size w w := Below.refl _ _
  go_wp2_with fail
  refine (sane_any _).mono ?_
  rintro e w1 ⟨rfl, hb⟩
  replace hbl := hbl.trans (hb.mono hbl.size)
  clear hb
  go_wp2_with fail
  refine (HN.out _).mono ?_
  rintro e w2 ⟨rfl, hb⟩
  replace hbl := hbl.trans (hb.mono hbl.size)
  clear hb
  go_wp2_with fail
  refine (HM.out _).mono ?_
  rintro e w3 ⟨rfl, hb⟩
  replace hbl := hbl.trans (hb.mono hbl.size)
  clear hb
  go_wp2_with fail
  refine (HI.out _).mono ?_
  rintro e w4 ⟨rfl, hb⟩
  replace hbl := hbl.trans (hb.mono hbl.size)
  clear hb
  go_wp2_with fail
  refine (HK.out _).mono ?_
  rintro e w5 ⟨rfl, hb⟩
  replace hbl := hbl.trans (hb.mono hbl.size)
  clear hb
  go_wp2_with fail
  go_ret
  exact ⟨rfl, hbl⟩

set_option maxRecDepth 8000 in
set_option maxHeartbeats 2000000 in
theorem ints_b2 (n m : Int) (N M : Nat) (w : World) (hn : n = ↑N) (hm : m = ↑M) (i1 : n < 9223372036854775808) (i2 : m < 9223372036854775808) (i3 : n < 2147483648) (i4 : 2147483648 ≤ m) :
    Calls Try.prog 10 #[.int .i64 n, .int .i64 m] w fun e w' => e = .returned (.bool true) ∧ Below w.heap.size w w' := by
  have sN := sm63 (show N < 9223372036854775808 by omega)
  have sM := sm63 (show M < 9223372036854775808 by omega)
  have h_ := fun w => Of_any n w (by omega) (by omega)
  simp only [ofE' hn] at h_
  have HN := Lib.hid h_
  clear h_
  have h_ := fun w => Of_any m w (by omega) (by omega)
  simp only [ofE' hm] at h_
  have HM := Lib.hid h_
  clear h_
  have HI := Lib.hid (fun w => Int_c' n N w (by omega) hn)
  have h_ := fun w => Check_any (encS N) w (encS_max sN)
  simp only [chkE1 sN] at h_
  have HK := Lib.hid h_
  clear h_
  have i7 : 0 ≤ n := by omega
  have i8 : 0 ≤ m := by omega
  replace hn := Lib.hid hn
  replace hm := Lib.hid hm
  clear sN sM
  go_enter Try.func10, Try.ntmps10
  have hbl : Below w.heap.size w w := Below.refl _ _
  go_wp2_with fail
  refine (sane_any _).mono ?_
  rintro e w1 ⟨rfl, hb⟩
  replace hbl := hbl.trans (hb.mono hbl.size)
  clear hb
  go_wp2_with fail
  refine (HN.out _).mono ?_
  rintro e w2 ⟨rfl, hb⟩
  replace hbl := hbl.trans (hb.mono hbl.size)
  clear hb
  go_wp2_with fail
  refine (HM.out _).mono ?_
  rintro e w3 ⟨rfl, hb⟩
  replace hbl := hbl.trans (hb.mono hbl.size)
  clear hb
  go_wp2_with fail
  refine (HI.out _).mono ?_
  rintro e w4 ⟨rfl, hb⟩
  replace hbl := hbl.trans (hb.mono hbl.size)
  clear hb
  go_wp2_with fail
  refine (HK.out _).mono ?_
  rintro e w5 ⟨rfl, hb⟩
  replace hbl := hbl.trans (hb.mono hbl.size)
  clear hb
  go_wp2_with fail
  go_ret
  exact ⟨rfl, hbl⟩

set_option maxRecDepth 8000 in
set_option maxHeartbeats 2000000 in
theorem ints_lt (n m : Int) (N M : Nat) (w : World) (hn : n = ↑N) (hm : m = ↑M) (i1 : n < 9223372036854775808) (i2 : m < 9223372036854775808) (i3 : n < 2147483648) (i4 : m < 2147483648) (i5 : n < m) :
    Calls Try.prog 10 #[.int .i64 n, .int .i64 m] w fun e w' => e = .returned (.bool true) ∧ Below w.heap.size w w' := by
  have sN := sm63 (show N < 9223372036854775808 by omega)
  have sM := sm63 (show M < 9223372036854775808 by omega)
  have h_ := fun w => Of_any n w (by omega) (by omega)
  simp only [ofE' hn] at h_
  have HN := Lib.hid h_
  clear h_
  have h_ := fun w => Of_any m w (by omega) (by omega)
  simp only [ofE' hm] at h_
  have HM := Lib.hid h_
  clear h_
  have HI := Lib.hid (fun w => Int_c' n N w (by omega) hn)
  have h_ := fun w => Check_any (encS N) w (encS_max sN)
  simp only [chkE1 sN] at h_
  have HK := Lib.hid h_
  clear h_
  have i7 : 0 ≤ n := by omega
  have i8 : 0 ≤ m := by omega
  have hN : N < 2147483648 := by omega
  have hM : M < 2147483648 := by omega
  have hP : N * M < 4611686018427387904 := Nat.mul_lt_mul'' hN hM
  have s1 : Sm (N + M) := sm63 (by omega)
  have s2 : Sm (N * M) := sm63 (by omega)
  have h_ := fun w => add_loop (encS N) (encS M) w (encS_max sN) (encS_max sM)
  simp only [addE sN sM s1] at h_
  have HA := Lib.hid h_
  clear h_
  have h_ := fun w => Mul_any (encS N) (encS M) w (encS_max sN) (encS_max sM)
  simp only [mulE sN sM s2] at h_
  have HP := Lib.hid h_
  clear h_
  have h_ := fun w => Compare_any (encS N) (encS M) w (encS_max sN) (encS_max sM)
  simp only [cmpE sN sM, cmpN_lt (show N < M by omega)] at h_
  have HC := Lib.hid h_
  clear h_
  have h_ := fun w => Div_any (encS N) (encS M) w (encS_max sN) (encS_max sM)
  simp only [divE sN sM (show 0 < M by omega)] at h_
  have HD := Lib.hid h_
  clear h_
  have hq : Hid (N / M < 2147483648) := Lib.hid (Nat.lt_of_le_of_lt (Nat.div_le_self N M) hN)
  have hr : Hid (N % M < 2147483648) := Lib.hid (Nat.lt_of_le_of_lt (Nat.mod_le N M) hN)
  have wa := Lib.hid (want_add (Lib.hid hn) (Lib.hid hm) hN hM)
  have wm := Lib.hid (want_mul (Lib.hid hn) (Lib.hid hm) hP)
  have ga := Lib.hid (show N + M < 9223372036854775808 by omega)
  have gp := Lib.hid (show N * M < 9223372036854775808 by omega)
  clear s1 s2 hP hN hM
  replace hn := Lib.hid hn
  replace hm := Lib.hid hm
  clear sN sM
  have wa' := Lib.hid (want_add' hn hm)
  have wq := Lib.hid (want_div hn hm)
  have wr := Lib.hid (want_mod hn hm)
  have wq' := Lib.hid (want_div' hn hm)
  have wr' := Lib.hid (want_mod' hn hm)
  have i6 : 0 < m := by omega
  have i9 : m ≠ 0 := by omega
  go_enter Try.func10, Try.ntmps10
  have hbl : Below w.heap.size w w := Below.refl _ _
  go_wp2_with fail
  refine (sane_any _).mono ?_
  rintro e w1 ⟨rfl, hb⟩
  replace hbl := hbl.trans (hb.mono hbl.size)
  clear hb
  go_wp2_with fail
  refine (HN.out _).mono ?_
  rintro e w2 ⟨rfl, hb⟩
  replace hbl := hbl.trans (hb.mono hbl.size)
  clear hb
  go_wp2_with fail
  refine (HM.out _).mono ?_
  rintro e w3 ⟨rfl, hb⟩
  replace hbl := hbl.trans (hb.mono hbl.size)
  clear hb
  go_wp2_with fail
  refine (HI.out _).mono ?_
  rintro e w4 ⟨rfl, hb⟩
  replace hbl := hbl.trans (hb.mono hbl.size)
  clear hb
  go_wp2_with fail
  refine (HK.out _).mono ?_
  rintro e w5 ⟨rfl, hb⟩
  replace hbl := hbl.trans (hb.mono hbl.size)
  clear hb
  go_wp2_with fail
  refine (HA.out _).mono ?_
  rintro e w6 ⟨rfl, hb⟩
  replace hbl := hbl.trans (hb.mono hbl.size)
  clear hb
  go_wp2_with fail
  refine (HP.out _).mono ?_
  rintro e w7 ⟨rfl, hb⟩
  replace hbl := hbl.trans (hb.mono hbl.size)
  clear hb
  go_wp2_with fail
  refine (HC.out _).mono ?_
  rintro e w8 ⟨rfl, hb⟩
  replace hbl := hbl.trans (hb.mono hbl.size)
  clear hb
  go_wp2_with fail
  refine (is_c (N + M) _ _ ga.out (by first | exact wa.out | exact wa'.out)).mono ?_
  rintro e w9 ⟨rfl, hb⟩
  replace hbl := hbl.trans (hb.mono hbl.size)
  clear hb
  go_wp2_with fail
  refine (is_c (N * M) _ _ gp.out (by first | exact wm.out)).mono ?_
  rintro e w10 ⟨rfl, hb⟩
  replace hbl := hbl.trans (hb.mono hbl.size)
  clear hb
  go_wp2_with fail
  refine (HD.out _).mono ?_
  rintro e w11 ⟨rfl, hb⟩
  replace hbl := hbl.trans (hb.mono hbl.size)
  clear hb
  go_wp2_with fail
  refine (is_c (N / M) _ _ (lt63 hq) (by first | exact wq.out | exact wq'.out)).mono ?_
  rintro e w12 ⟨rfl, hb⟩
  replace hbl := hbl.trans (hb.mono hbl.size)
  clear hb
  go_wp2_with fail
  refine (is_c (N % M) _ _ (lt63 hr) (by first | exact wr.out | exact wr'.out)).mono ?_
  rintro e w13 ⟨rfl, hb⟩
  replace hbl := hbl.trans (hb.mono hbl.size)
  clear hb
  go_wp2_with fail
  go_ret
  exact ⟨rfl, hbl⟩

set_option maxRecDepth 8000 in
set_option maxHeartbeats 2000000 in
theorem ints_eqz (n m : Int) (N M : Nat) (w : World) (hn : n = ↑N) (hm : m = ↑M) (i1 : n < 9223372036854775808) (i2 : m < 9223372036854775808) (i3 : n < 2147483648) (i4 : m < 2147483648) (i5 : n ≤ m) (i5' : m ≤ n) (i6 : m ≤ 0) :
    Calls Try.prog 10 #[.int .i64 n, .int .i64 m] w fun e w' => e = .returned (.bool true) ∧ Below w.heap.size w w' := by
  have sN := sm63 (show N < 9223372036854775808 by omega)
  have sM := sm63 (show M < 9223372036854775808 by omega)
  have h_ := fun w => Of_any n w (by omega) (by omega)
  simp only [ofE' hn] at h_
  have HN := Lib.hid h_
  clear h_
  have h_ := fun w => Of_any m w (by omega) (by omega)
  simp only [ofE' hm] at h_
  have HM := Lib.hid h_
  clear h_
  have HI := Lib.hid (fun w => Int_c' n N w (by omega) hn)
  have h_ := fun w => Check_any (encS N) w (encS_max sN)
  simp only [chkE1 sN] at h_
  have HK := Lib.hid h_
  clear h_
  have i7 : 0 ≤ n := by omega
  have i8 : 0 ≤ m := by omega
  have hN : N < 2147483648 := by omega
  have hM : M < 2147483648 := by omega
  have hP : N * M < 4611686018427387904 := Nat.mul_lt_mul'' hN hM
  have s1 : Sm (N + M) := sm63 (by omega)
  have s2 : Sm (N * M) := sm63 (by omega)
  have h_ := fun w => add_loop (encS N) (encS M) w (encS_max sN) (encS_max sM)
  simp only [addE sN sM s1] at h_
  have HA := Lib.hid h_
  clear h_
  have h_ := fun w => Mul_any (encS N) (encS M) w (encS_max sN) (encS_max sM)
  simp only [mulE sN sM s2] at h_
  have HP := Lib.hid h_
  clear h_
  have h_ := fun w => Compare_any (encS N) (encS M) w (encS_max sN) (encS_max sM)
  simp only [cmpE sN sM, cmpN_eq (show N = M by omega)] at h_
  have HC := Lib.hid h_
  clear h_
  have wa := Lib.hid (want_add (Lib.hid hn) (Lib.hid hm) hN hM)
  have wm := Lib.hid (want_mul (Lib.hid hn) (Lib.hid hm) hP)
  have ga := Lib.hid (show N + M < 9223372036854775808 by omega)
  have gp := Lib.hid (show N * M < 9223372036854775808 by omega)
  clear s1 s2 hP hN hM
  replace hn := Lib.hid hn
  replace hm := Lib.hid hm
  clear sN sM
  have wa' := Lib.hid (want_add' hn hm)
  go_enter Try.func10, Try.ntmps10
  have hbl : Below w.heap.size w w := Below.refl _ _
  go_wp2_with fail
  refine (sane_any _).mono ?_
  rintro e w1 ⟨rfl, hb⟩
  replace hbl := hbl.trans (hb.mono hbl.size)
  clear hb
  go_wp2_with fail
  refine (HN.out _).mono ?_
  rintro e w2 ⟨rfl, hb⟩
  replace hbl := hbl.trans (hb.mono hbl.size)
  clear hb
  go_wp2_with fail
  refine (HM.out _).mono ?_
  rintro e w3 ⟨rfl, hb⟩
  replace hbl := hbl.trans (hb.mono hbl.size)
  clear hb
  go_wp2_with fail
  refine (HI.out _).mono ?_
  rintro e w4 ⟨rfl, hb⟩
  replace hbl := hbl.trans (hb.mono hbl.size)
  clear hb
  go_wp2_with fail
  refine (HK.out _).mono ?_
  rintro e w5 ⟨rfl, hb⟩
  replace hbl := hbl.trans (hb.mono hbl.size)
  clear hb
  go_wp2_with fail
  refine (HA.out _).mono ?_
  rintro e w6 ⟨rfl, hb⟩
  replace hbl := hbl.trans (hb.mono hbl.size)
  clear hb
  go_wp2_with fail
  refine (HP.out _).mono ?_
  rintro e w7 ⟨rfl, hb⟩
  replace hbl := hbl.trans (hb.mono hbl.size)
  clear hb
  go_wp2_with fail
  refine (HC.out _).mono ?_
  rintro e w8 ⟨rfl, hb⟩
  replace hbl := hbl.trans (hb.mono hbl.size)
  clear hb
  go_wp2_with fail
  refine (is_c (N + M) _ _ ga.out (by first | exact wa.out | exact wa'.out)).mono ?_
  rintro e w9 ⟨rfl, hb⟩
  replace hbl := hbl.trans (hb.mono hbl.size)
  clear hb
  go_wp2_with fail
  refine (is_c (N * M) _ _ gp.out (by first | exact wm.out)).mono ?_
  rintro e w10 ⟨rfl, hb⟩
  replace hbl := hbl.trans (hb.mono hbl.size)
  clear hb
  go_wp2_with fail
  go_ret
  exact ⟨rfl, hbl⟩

set_option maxRecDepth 8000 in
set_option maxHeartbeats 2000000 in
theorem ints_eqp (n m : Int) (N M : Nat) (w : World) (hn : n = ↑N) (hm : m = ↑M) (i1 : n < 9223372036854775808) (i2 : m < 9223372036854775808) (i3 : n < 2147483648) (i4 : m < 2147483648) (i5 : n ≤ m) (i5' : m ≤ n) (i6 : 0 < m) :
    Calls Try.prog 10 #[.int .i64 n, .int .i64 m] w fun e w' => e = .returned (.bool true) ∧ Below w.heap.size w w' := by
  have sN := sm63 (show N < 9223372036854775808 by omega)
  have sM := sm63 (show M < 9223372036854775808 by omega)
  have h_ := fun w => Of_any n w (by omega) (by omega)
  simp only [ofE' hn] at h_
  have HN := Lib.hid h_
  clear h_
  have h_ := fun w => Of_any m w (by omega) (by omega)
  simp only [ofE' hm] at h_
  have HM := Lib.hid h_
  clear h_
  have HI := Lib.hid (fun w => Int_c' n N w (by omega) hn)
  have h_ := fun w => Check_any (encS N) w (encS_max sN)
  simp only [chkE1 sN] at h_
  have HK := Lib.hid h_
  clear h_
  have i7 : 0 ≤ n := by omega
  have i8 : 0 ≤ m := by omega
  have hN : N < 2147483648 := by omega
  have hM : M < 2147483648 := by omega
  have hP : N * M < 4611686018427387904 := Nat.mul_lt_mul'' hN hM
  have s1 : Sm (N + M) := sm63 (by omega)
  have s2 : Sm (N * M) := sm63 (by omega)
  have h_ := fun w => add_loop (encS N) (encS M) w (encS_max sN) (encS_max sM)
  simp only [addE sN sM s1] at h_
  have HA := Lib.hid h_
  clear h_
  have h_ := fun w => Mul_any (encS N) (encS M) w (encS_max sN) (encS_max sM)
  simp only [mulE sN sM s2] at h_
  have HP := Lib.hid h_
  clear h_
  have h_ := fun w => Compare_any (encS N) (encS M) w (encS_max sN) (encS_max sM)
  simp only [cmpE sN sM, cmpN_eq (show N = M by omega)] at h_
  have HC := Lib.hid h_
  clear h_
  have h_ := fun w => Div_any (encS N) (encS M) w (encS_max sN) (encS_max sM)
  simp only [divE sN sM (show 0 < M by omega)] at h_
  have HD := Lib.hid h_
  clear h_
  have hq : Hid (N / M < 2147483648) := Lib.hid (Nat.lt_of_le_of_lt (Nat.div_le_self N M) hN)
  have hr : Hid (N % M < 2147483648) := Lib.hid (Nat.lt_of_le_of_lt (Nat.mod_le N M) hN)
  have wa := Lib.hid (want_add (Lib.hid hn) (Lib.hid hm) hN hM)
  have wm := Lib.hid (want_mul (Lib.hid hn) (Lib.hid hm) hP)
  have ga := Lib.hid (show N + M < 9223372036854775808 by omega)
  have gp := Lib.hid (show N * M < 9223372036854775808 by omega)
  clear s1 s2 hP hN hM
  replace hn := Lib.hid hn
  replace hm := Lib.hid hm
  clear sN sM
  have wa' := Lib.hid (want_add' hn hm)
  have wq := Lib.hid (want_div hn hm)
  have wr := Lib.hid (want_mod hn hm)
  have wq' := Lib.hid (want_div' hn hm)
  have wr' := Lib.hid (want_mod' hn hm)
  have i9 : m ≠ 0 := by omega
  go_enter Try.func10, Try.ntmps10
  have hbl : Below w.heap.size w w := Below.refl _ _
  go_wp2_with fail
  refine (sane_any _).mono ?_
  rintro e w1 ⟨rfl, hb⟩
  replace hbl := hbl.trans (hb.mono hbl.size)
  clear hb
  go_wp2_with fail
  refine (HN.out _).mono ?_
  rintro e w2 ⟨rfl, hb⟩
  replace hbl := hbl.trans (hb.mono hbl.size)
  clear hb
  go_wp2_with fail
  refine (HM.out _).mono ?_
  rintro e w3 ⟨rfl, hb⟩
  replace hbl := hbl.trans (hb.mono hbl.size)
  clear hb
  go_wp2_with fail
  refine (HI.out _).mono ?_
  rintro e w4 ⟨rfl, hb⟩
  replace hbl := hbl.trans (hb.mono hbl.size)
  clear hb
  go_wp2_with fail
  refine (HK.out _).mono ?_
  rintro e w5 ⟨rfl, hb⟩
  replace hbl := hbl.trans (hb.mono hbl.size)
  clear hb
  go_wp2_with fail
  refine (HA.out _).mono ?_
  rintro e w6 ⟨rfl, hb⟩
  replace hbl := hbl.trans (hb.mono hbl.size)
  clear hb
  go_wp2_with fail
  refine (HP.out _).mono ?_
  rintro e w7 ⟨rfl, hb⟩
  replace hbl := hbl.trans (hb.mono hbl.size)
  clear hb
  go_wp2_with fail
  refine (HC.out _).mono ?_
  rintro e w8 ⟨rfl, hb⟩
  replace hbl := hbl.trans (hb.mono hbl.size)
  clear hb
  go_wp2_with fail
  refine (is_c (N + M) _ _ ga.out (by first | exact wa.out | exact wa'.out)).mono ?_
  rintro e w9 ⟨rfl, hb⟩
  replace hbl := hbl.trans (hb.mono hbl.size)
  clear hb
  go_wp2_with fail
  refine (is_c (N * M) _ _ gp.out (by first | exact wm.out)).mono ?_
  rintro e w10 ⟨rfl, hb⟩
  replace hbl := hbl.trans (hb.mono hbl.size)
  clear hb
  go_wp2_with fail
  refine (HD.out _).mono ?_
  rintro e w11 ⟨rfl, hb⟩
  replace hbl := hbl.trans (hb.mono hbl.size)
  clear hb
  go_wp2_with fail
  refine (is_c (N / M) _ _ (lt63 hq) (by first | exact wq.out | exact wq'.out)).mono ?_
  rintro e w12 ⟨rfl, hb⟩
  replace hbl := hbl.trans (hb.mono hbl.size)
  clear hb
  go_wp2_with fail
  refine (is_c (N % M) _ _ (lt63 hr) (by first | exact wr.out | exact wr'.out)).mono ?_
  rintro e w13 ⟨rfl, hb⟩
  replace hbl := hbl.trans (hb.mono hbl.size)
  clear hb
  go_wp2_with fail
  go_ret
  exact ⟨rfl, hbl⟩

set_option maxRecDepth 8000 in
set_option maxHeartbeats 2000000 in
theorem ints_gtz (n m : Int) (N M : Nat) (w : World) (hn : n = ↑N) (hm : m = ↑M) (i1 : n < 9223372036854775808) (i2 : m < 9223372036854775808) (i3 : n < 2147483648) (i4 : m < 2147483648) (i5 : m < n) (i6 : m ≤ 0) :
    Calls Try.prog 10 #[.int .i64 n, .int .i64 m] w fun e w' => e = .returned (.bool true) ∧ Below w.heap.size w w' := by
  have sN := sm63 (show N < 9223372036854775808 by omega)
  have sM := sm63 (show M < 9223372036854775808 by omega)
  have h_ := fun w => Of_any n w (by omega) (by omega)
  simp only [ofE' hn] at h_
  have HN := Lib.hid h_
  clear h_
  have h_ := fun w => Of_any m w (by omega) (by omega)
  simp only [ofE' hm] at h_
  have HM := Lib.hid h_
  clear h_
  have HI := Lib.hid (fun w => Int_c' n N w (by omega) hn)
  have h_ := fun w => Check_any (encS N) w (encS_max sN)
  simp only [chkE1 sN] at h_
  have HK := Lib.hid h_
  clear h_
  have i7 : 0 ≤ n := by omega
  have i8 : 0 ≤ m := by omega
  have hN : N < 2147483648 := by omega
  have hM : M < 2147483648 := by omega
  have hP : N * M < 4611686018427387904 := Nat.mul_lt_mul'' hN hM
  have s1 : Sm (N + M) := sm63 (by omega)
  have s2 : Sm (N * M) := sm63 (by omega)
  have h_ := fun w => add_loop (encS N) (encS M) w (encS_max sN) (encS_max sM)
  simp only [addE sN sM s1] at h_
  have HA := Lib.hid h_
  clear h_
  have h_ := fun w => Mul_any (encS N) (encS M) w (encS_max sN) (encS_max sM)
  simp only [mulE sN sM s2] at h_
  have HP := Lib.hid h_
  clear h_
  have h_ := fun w => Compare_any (encS N) (encS M) w (encS_max sN) (encS_max sM)
  simp only [cmpE sN sM, cmpN_gt (show M < N by omega)] at h_
  have HC := Lib.hid h_
  clear h_
  have wa := Lib.hid (want_add (Lib.hid hn) (Lib.hid hm) hN hM)
  have wm := Lib.hid (want_mul (Lib.hid hn) (Lib.hid hm) hP)
  have ga := Lib.hid (show N + M < 9223372036854775808 by omega)
  have gp := Lib.hid (show N * M < 9223372036854775808 by omega)
  clear s1 s2 hP hN hM
  replace hn := Lib.hid hn
  replace hm := Lib.hid hm
  clear sN sM
  have wa' := Lib.hid (want_add' hn hm)
  go_enter Try.func10, Try.ntmps10
  have hbl : Below w.heap.size w w := Below.refl _ _
  go_wp2_with fail
  refine (sane_any _).mono ?_
  rintro e w1 ⟨rfl, hb⟩
  replace hbl := hbl.trans (hb.mono hbl.size)
  clear hb
  go_wp2_with fail
  refine (HN.out _).mono ?_
  rintro e w2 ⟨rfl, hb⟩
  replace hbl := hbl.trans (hb.mono hbl.size)
  clear hb
  go_wp2_with fail
  refine (HM.out _).mono ?_
  rintro e w3 ⟨rfl, hb⟩
  replace hbl := hbl.trans (hb.mono hbl.size)
  clear hb
  go_wp2_with fail
  refine (HI.out _).mono ?_
  rintro e w4 ⟨rfl, hb⟩
  replace hbl := hbl.trans (hb.mono hbl.size)
  clear hb
  go_wp2_with fail
  refine (HK.out _).mono ?_
  rintro e w5 ⟨rfl, hb⟩
  replace hbl := hbl.trans (hb.mono hbl.size)
  clear hb
  go_wp2_with fail
  refine (HA.out _).mono ?_
  rintro e w6 ⟨rfl, hb⟩
  replace hbl := hbl.trans (hb.mono hbl.size)
  clear hb
  go_wp2_with fail
  refine (HP.out _).mono ?_
  rintro e w7 ⟨rfl, hb⟩
  replace hbl := hbl.trans (hb.mono hbl.size)
  clear hb
  go_wp2_with fail
  refine (HC.out _).mono ?_
  rintro e w8 ⟨rfl, hb⟩
  replace hbl := hbl.trans (hb.mono hbl.size)
  clear hb
  go_wp2_with fail
  refine (is_c (N + M) _ _ ga.out (by first | exact wa.out | exact wa'.out)).mono ?_
  rintro e w9 ⟨rfl, hb⟩
  replace hbl := hbl.trans (hb.mono hbl.size)
  clear hb
  go_wp2_with fail
  refine (is_c (N * M) _ _ gp.out (by first | exact wm.out)).mono ?_
  rintro e w10 ⟨rfl, hb⟩
  replace hbl := hbl.trans (hb.mono hbl.size)
  clear hb
  go_wp2_with fail
  go_ret
  exact ⟨rfl, hbl⟩

set_option maxRecDepth 8000 in
set_option maxHeartbeats 2000000 in
theorem ints_gtp (n m : Int) (N M : Nat) (w : World) (hn : n = ↑N) (hm : m = ↑M) (i1 : n < 9223372036854775808) (i2 : m < 9223372036854775808) (i3 : n < 2147483648) (i4 : m < 2147483648) (i5 : m < n) (i6 : 0 < m) :
    Calls Try.prog 10 #[.int .i64 n, .int .i64 m] w fun e w' => e = .returned (.bool true) ∧ Below w.heap.size w w' := by
  have sN := sm63 (show N < 9223372036854775808 by omega)
  have sM := sm63 (show M < 9223372036854775808 by omega)
  have h_ := fun w => Of_any n w (by omega) (by omega)
  simp only [ofE' hn] at h_
  have HN := Lib.hid h_
  clear h_
  have h_ := fun w => Of_any m w (by omega) (by omega)
  simp only [ofE' hm] at h_
  have HM := Lib.hid h_
  clear h_
  have HI := Lib.hid (fun w => Int_c' n N w (by omega) hn)
  have h_ := fun w => Check_any (encS N) w (encS_max sN)
  simp only [chkE1 sN] at h_
  have HK := Lib.hid h_
  clear h_
  have i7 : 0 ≤ n := by omega
  have i8 : 0 ≤ m := by omega
  have hN : N < 2147483648 := by omega
  have hM : M < 2147483648 := by omega
  have hP : N * M < 4611686018427387904 := Nat.mul_lt_mul'' hN hM
  have s1 : Sm (N + M) := sm63 (by omega)
  have s2 : Sm (N * M) := sm63 (by omega)
  have h_ := fun w => add_loop (encS N) (encS M) w (encS_max sN) (encS_max sM)
  simp only [addE sN sM s1] at h_
  have HA := Lib.hid h_
  clear h_
  have h_ := fun w => Mul_any (encS N) (encS M) w (encS_max sN) (encS_max sM)
  simp only [mulE sN sM s2] at h_
  have HP := Lib.hid h_
  clear h_
  have h_ := fun w => Compare_any (encS N) (encS M) w (encS_max sN) (encS_max sM)
  simp only [cmpE sN sM, cmpN_gt (show M < N by omega)] at h_
  have HC := Lib.hid h_
  clear h_
  have h_ := fun w => Div_any (encS N) (encS M) w (encS_max sN) (encS_max sM)
  simp only [divE sN sM (show 0 < M by omega)] at h_
  have HD := Lib.hid h_
  clear h_
  have hq : Hid (N / M < 2147483648) := Lib.hid (Nat.lt_of_le_of_lt (Nat.div_le_self N M) hN)
  have hr : Hid (N % M < 2147483648) := Lib.hid (Nat.lt_of_le_of_lt (Nat.mod_le N M) hN)
  have wa := Lib.hid (want_add (Lib.hid hn) (Lib.hid hm) hN hM)
  have wm := Lib.hid (want_mul (Lib.hid hn) (Lib.hid hm) hP)
  have ga := Lib.hid (show N + M < 9223372036854775808 by omega)
  have gp := Lib.hid (show N * M < 9223372036854775808 by omega)
  clear s1 s2 hP hN hM
  replace hn := Lib.hid hn
  replace hm := Lib.hid hm
  clear sN sM
  have wa' := Lib.hid (want_add' hn hm)
  have wq := Lib.hid (want_div hn hm)
  have wr := Lib.hid (want_mod hn hm)
  have wq' := Lib.hid (want_div' hn hm)
  have wr' := Lib.hid (want_mod' hn hm)
  have i9 : m ≠ 0 := by omega
  go_enter Try.func10, Try.ntmps10
  have hbl : Below w.heap.size w w := Below.refl _ _
  go_wp2_with fail
  refine (sane_any _).mono ?_
  rintro e w1 ⟨rfl, hb⟩
  replace hbl := hbl.trans (hb.mono hbl.size)
  clear hb
  go_wp2_with fail
  refine (HN.out _).mono ?_
  rintro e w2 ⟨rfl, hb⟩
  replace hbl := hbl.trans (hb.mono hbl.size)
  clear hb
  go_wp2_with fail
  refine (HM.out _).mono ?_
  rintro e w3 ⟨rfl, hb⟩
  replace hbl := hbl.trans (hb.mono hbl.size)
  clear hb
  go_wp2_with fail
  refine (HI.out _).mono ?_
  rintro e w4 ⟨rfl, hb⟩
  replace hbl := hbl.trans (hb.mono hbl.size)
  clear hb
  go_wp2_with fail
  refine (HK.out _).mono ?_
  rintro e w5 ⟨rfl, hb⟩
  replace hbl := hbl.trans (hb.mono hbl.size)
  clear hb
  go_wp2_with fail
  refine (HA.out _).mono ?_
  rintro e w6 ⟨rfl, hb⟩
  replace hbl := hbl.trans (hb.mono hbl.size)
  clear hb
  go_wp2_with fail
  refine (HP.out _).mono ?_
  rintro e w7 ⟨rfl, hb⟩
  replace hbl := hbl.trans (hb.mono hbl.size)
  clear hb
  go_wp2_with fail
  refine (HC.out _).mono ?_
  rintro e w8 ⟨rfl, hb⟩
  replace hbl := hbl.trans (hb.mono hbl.size)
  clear hb
  go_wp2_with fail
  refine (is_c (N + M) _ _ ga.out (by first | exact wa.out | exact wa'.out)).mono ?_
  rintro e w9 ⟨rfl, hb⟩
  replace hbl := hbl.trans (hb.mono hbl.size)
  clear hb
  go_wp2_with fail
  refine (is_c (N * M) _ _ gp.out (by first | exact wm.out)).mono ?_
  rintro e w10 ⟨rfl, hb⟩
  replace hbl := hbl.trans (hb.mono hbl.size)
  clear hb
  go_wp2_with fail
  refine (HD.out _).mono ?_
  rintro e w11 ⟨rfl, hb⟩
  replace hbl := hbl.trans (hb.mono hbl.size)
  clear hb
  go_wp2_with fail
  refine (is_c (N / M) _ _ (lt63 hq) (by first | exact wq.out | exact wq'.out)).mono ?_
  rintro e w12 ⟨rfl, hb⟩
  replace hbl := hbl.trans (hb.mono hbl.size)
  clear hb
  go_wp2_with fail
  refine (is_c (N % M) _ _ (lt63 hr) (by first | exact wr.out | exact wr'.out)).mono ?_
  rintro e w13 ⟨rfl, hb⟩
  replace hbl := hbl.trans (hb.mono hbl.size)
  clear hb
  go_wp2_with fail
  go_ret
  exact ⟨rfl, hbl⟩

theorem naturalsInts_walk (n m : Int) (w : World) (n1 : -9223372036854775808 ≤ n) (n2 : n ≤ 9223372036854775807) (m1 : -9223372036854775808 ≤ m) (m2 : m ≤ 9223372036854775807) :
    Calls Try.prog 10 #[.int .i64 n, .int .i64 m] w fun e w' => e = .returned (.bool true) ∧ Below w.heap.size w w' := by
  by_cases h1 : n < 0
  · by_cases h2 : m < 0
    · exact ints_nn n m w n1 (by omega) m1 (by omega) h1 h2
    · exact ints_np n m w n1 (by omega) m1 (by omega) h1 (by omega)
  · by_cases h2 : m < 0
    · exact ints_pn n m w n1 (by omega) m1 (by omega) (by omega) h2
    · obtain ⟨N, hn⟩ := Int.eq_ofNat_of_zero_le (show 0 ≤ n by omega)
      obtain ⟨M, hm⟩ := Int.eq_ofNat_of_zero_le (show 0 ≤ m by omega)
      have i1 : n < 9223372036854775808 := by omega
      have i2 : m < 9223372036854775808 := by omega
      by_cases h3 : 2147483648 ≤ n
      · exact ints_b1 n m N M w hn hm i1 i2 h3
      · by_cases h4 : 2147483648 ≤ m
        · exact ints_b2 n m N M w hn hm i1 i2 (by omega) h4
        · by_cases h5 : n < m
          · exact ints_lt n m N M w hn hm i1 i2 (by omega) (by omega) h5
          · by_cases h6 : m < n
            · by_cases h7 : m ≤ 0
              · exact ints_gtz n m N M w hn hm i1 i2 (by omega) (by omega) h6 h7
              · exact ints_gtp n m N M w hn hm i1 i2 (by omega) (by omega) h6 (by omega)
            · by_cases h7 : m ≤ 0
              · exact ints_eqz n m N M w hn hm i1 i2 (by omega) (by omega) (by omega) (by omega) h7
              · exact ints_eqp n m N M w hn hm i1 i2 (by omega) (by omega) (by omega) (by omega) (by omega)

end Go.Proofs.Ytlkpphoioocjeaa
