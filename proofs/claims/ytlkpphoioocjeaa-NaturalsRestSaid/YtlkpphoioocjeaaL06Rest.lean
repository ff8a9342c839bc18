/-
  The laws of chapter 06: the walk of NaturalsRest.
-/
import Derived.Test.YtlkpphoioocjeaaLaw06
namespace Go.Proofs.Ytlkpphoioocjeaa
open Go.RowKit Nm

set_option maxHeartbeats 1000000 in
theorem naturalsRest_walk (a b : ByteArray) (w : World) (ha : a.size ≤ maxLen) (hb : b.size ≤ maxLen) :
    Calls Try.prog 6 #[.string a, .string b] w fun e w' => e = .returned (.bool true) ∧ Below w.heap.size w w' := by
  by_cases h : chkN [a, b] = 0
  · obtain ⟨n1, n2, s1, s2⟩ := chk2_zero h
    obtain ⟨ea, hA⟩ := natE n1 s1
    obtain ⟨eb, hB⟩ := natE n2 s2
    generalize nv a = A at *
    generalize nv b = B at *
    subst ea eb
    clear n1 n2 s1 s2 h
    by_cases h0 : 0 < B
    · have q1 : Sm (A / B) := hA.mono (Nat.div_le_self _ _)
      have r1 : Sm (A % B) := hA.mono (Nat.mod_le _ _)
      have hp : A / B * B ≤ A := Nat.div_mul_le_self _ _
      have p1 : Sm (A / B * B) := hA.mono hp
      have e1 : A / B * B + A % B = A := Nat.div_add_mod' A B
      have h_ := fun w => Div_any (encS A) (encS B) w ha hb
      simp only [divE hA hB h0] at h_
      have HD := Lib.hid h_
      clear h_
      have h_ := fun w => Mul_any (encS (A / B)) (encS B) w (encS_max q1) hb
      simp only [mulE q1 hB p1] at h_
      have HM := Lib.hid h_
      clear h_
      have h_ := fun w => add_loop (encS (A / B * B)) (encS (A % B)) w (encS_max p1) (encS_max r1)
      simp only [addE p1 r1 (by rw [e1]; exact hA), e1] at h_
      have HA := Lib.hid h_
      clear h_
      have h_ := fun w => Compare_any (encS (A % B)) (encS B) w (encS_max r1) hb
      simp only [cmpE r1 hB, cmpN_lt (Nat.mod_lt A h0)] at h_
      have HC := Lib.hid h_
      clear h_
      have h_ := fun w => Div_any (encS (A / B * B)) (encS B) w (encS_max p1) hb
      simp only [divE p1 hB h0, Nat.mul_div_cancel _ h0, Nat.mul_mod_left] at h_
      have HD2 := Lib.hid h_
      clear h_
      clear e1 hp h0
      go_enter Try.func6, Try.ntmps6
      have hbl : Below w.heap.size w w := Below.refl _ _
      go_wp2_with fail
      refine (sane_any _).mono ?_
      rintro e w1 ⟨rfl, hb⟩
      replace hbl := hbl.trans (hb.mono hbl.size)
      clear hb
      go_wp2_with fail
      refine (HD.out _).mono ?_
      rintro e w2 ⟨rfl, hb⟩
      replace hbl := hbl.trans (hb.mono hbl.size)
      clear hb
      go_wp2_with fail
      refine (HM.out _).mono ?_
      rintro e w3 ⟨rfl, hb⟩
      replace hbl := hbl.trans (hb.mono hbl.size)
      clear hb
      go_wp2_with fail
      refine (HA.out _).mono ?_
      rintro e w4 ⟨rfl, hb⟩
      replace hbl := hbl.trans (hb.mono hbl.size)
      clear hb
      go_wp2_with fail
      refine (HC.out _).mono ?_
      rintro e w5 ⟨rfl, hb⟩
      replace hbl := hbl.trans (hb.mono hbl.size)
      clear hb
      go_wp2_with fail
      refine (HD2.out _).mono ?_
      rintro e w6 ⟨rfl, hb⟩
      replace hbl := hbl.trans (hb.mono hbl.size)
      clear hb
      go_wp2_with fail
      go_ret
      exact ⟨ret_bool encS0_empty, hbl⟩
    · obtain rfl : B = 0 := by omega
      have h_ := fun w => Div_any (encS A) (encS 0) w ha hb
      simp only [divZ hA] at h_
      have HD := Lib.hid h_
      clear h_
      go_enter Try.func6, Try.ntmps6
      have hbl : Below w.heap.size w w := Below.refl _ _
      have hE := bE_nil
      have hE0 := enc0_nil
      go_wp2_with fail
      refine (sane_any _).mono ?_
      rintro e w1 ⟨rfl, hb⟩
      replace hbl := hbl.trans (hb.mono hbl.size)
      clear hb
      go_wp2_with fail
      refine (HD.out _).mono ?_
      rintro e w2 ⟨rfl, hb⟩
      replace hbl := hbl.trans (hb.mono hbl.size)
      clear hb
      go_wp2_with fail
      go_ret
      exact ⟨rfl, hbl⟩
  · obtain ⟨k1 | k1, (k2 | k2) | ⟨k2, k3 | k3⟩⟩ := chk_way h
    · have hd : divF a b = (bE, bE, 2) := by rw [divF, if_neg h, k1]
      have h_ := fun w => Div_any a b w ha hb
      simp only [hd] at h_
      have HD := Lib.hid h_
      clear h_
      have h_ := fun w => Check_any a w ha
      simp only [k2] at h_
      have HA := Lib.hid h_
      clear h_
      clear hd k1 k2 h
      by_cases hz : b.size = 0
      · clear HA
        obtain rfl : b = bE := size_bE hz
        clear hz
        go_enter Try.func6, Try.ntmps6
        have hbl : Below w.heap.size w w := Below.refl _ _
        have hE := bE_nil
        go_wp2_with fail
        refine (sane_any _).mono ?_
        rintro e w1 ⟨rfl, hb⟩
        replace hbl := hbl.trans (hb.mono hbl.size)
        clear hb
        go_wp2_with fail
        refine (HD.out _).mono ?_
        rintro e w2 ⟨rfl, hb⟩
        replace hbl := hbl.trans (hb.mono hbl.size)
        clear hb
        go_wp2_with fail
        go_ret
        exact ⟨rfl, hbl⟩
      · skip
        have hz' := size_ne hz
        clear hz
        go_enter Try.func6, Try.ntmps6
        have hbl : Below w.heap.size w w := Below.refl _ _
        have hE := bE_nil
        go_wp2_with fail
        refine (sane_any _).mono ?_
        rintro e w1 ⟨rfl, hb⟩
        replace hbl := hbl.trans (hb.mono hbl.size)
        clear hb
        go_wp2_with fail
        refine (HD.out _).mono ?_
        rintro e w2 ⟨rfl, hb⟩
        replace hbl := hbl.trans (hb.mono hbl.size)
        clear hb
        go_wp2_with fail
        refine (HA.out _).mono ?_
        rintro e w3 ⟨rfl, hb⟩
        replace hbl := hbl.trans (hb.mono hbl.size)
        clear hb
        go_wp2_with fail
        go_ret
        exact ⟨rfl, hbl⟩
    · have hd : divF a b = (bE, bE, 2) := by rw [divF, if_neg h, k1]
      have h_ := fun w => Div_any a b w ha hb
      simp only [hd] at h_
      have HD := Lib.hid h_
      clear h_
      have h_ := fun w => Check_any a w ha
      simp only [k2] at h_
      have HA := Lib.hid h_
      clear h_
      clear hd k1 k2 h
      by_cases hz : b.size = 0
      · clear HA
        obtain rfl : b = bE := size_bE hz
        clear hz
        go_enter Try.func6, Try.ntmps6
        have hbl : Below w.heap.size w w := Below.refl _ _
        have hE := bE_nil
        go_wp2_with fail
        refine (sane_any _).mono ?_
        rintro e w1 ⟨rfl, hb⟩
        replace hbl := hbl.trans (hb.mono hbl.size)
        clear hb
        go_wp2_with fail
        refine (HD.out _).mono ?_
        rintro e w2 ⟨rfl, hb⟩
        replace hbl := hbl.trans (hb.mono hbl.size)
        clear hb
        go_wp2_with fail
        go_ret
        exact ⟨rfl, hbl⟩
      · skip
        have hz' := size_ne hz
        clear hz
        go_enter Try.func6, Try.ntmps6
        have hbl : Below w.heap.size w w := Below.refl _ _
        have hE := bE_nil
        go_wp2_with fail
        refine (sane_any _).mono ?_
        rintro e w1 ⟨rfl, hb⟩
        replace hbl := hbl.trans (hb.mono hbl.size)
        clear hb
        go_wp2_with fail
        refine (HD.out _).mono ?_
        rintro e w2 ⟨rfl, hb⟩
        replace hbl := hbl.trans (hb.mono hbl.size)
        clear hb
        go_wp2_with fail
        refine (HA.out _).mono ?_
        rintro e w3 ⟨rfl, hb⟩
        replace hbl := hbl.trans (hb.mono hbl.size)
        clear hb
        go_wp2_with fail
        go_ret
        exact ⟨rfl, hbl⟩
    · have hd : divF a b = (bE, bE, 2) := by rw [divF, if_neg h, k1]
      have h_ := fun w => Div_any a b w ha hb
      simp only [hd] at h_
      have HD := Lib.hid h_
      clear h_
      have h_ := fun w => Check_any a w ha
      simp only [k2] at h_
      have HA := Lib.hid h_
      clear h_
      have h_ := fun w => Check_any b w hb
      simp only [k3] at h_
      have HB := Lib.hid h_
      clear h_
      clear hd k1 k2 h k3
      by_cases hz : b.size = 0
      · clear HA HB
        obtain rfl : b = bE := size_bE hz
        clear hz
        go_enter Try.func6, Try.ntmps6
        have hbl : Below w.heap.size w w := Below.refl _ _
        have hE := bE_nil
        go_wp2_with fail
        refine (sane_any _).mono ?_
        rintro e w1 ⟨rfl, hb⟩
        replace hbl := hbl.trans (hb.mono hbl.size)
        clear hb
        go_wp2_with fail
        refine (HD.out _).mono ?_
        rintro e w2 ⟨rfl, hb⟩
        replace hbl := hbl.trans (hb.mono hbl.size)
        clear hb
        go_wp2_with fail
        go_ret
        exact ⟨rfl, hbl⟩
      · skip
        have hz' := size_ne hz
        clear hz
        go_enter Try.func6, Try.ntmps6
        have hbl : Below w.heap.size w w := Below.refl _ _
        have hE := bE_nil
        go_wp2_with fail
        refine (sane_any _).mono ?_
        rintro e w1 ⟨rfl, hb⟩
        replace hbl := hbl.trans (hb.mono hbl.size)
        clear hb
        go_wp2_with fail
        refine (HD.out _).mono ?_
        rintro e w2 ⟨rfl, hb⟩
        replace hbl := hbl.trans (hb.mono hbl.size)
        clear hb
        go_wp2_with fail
        refine (HA.out _).mono ?_
        rintro e w3 ⟨rfl, hb⟩
        replace hbl := hbl.trans (hb.mono hbl.size)
        clear hb
        go_wp2_with fail
        refine (HB.out _).mono ?_
        rintro e w4 ⟨rfl, hb⟩
        replace hbl := hbl.trans (hb.mono hbl.size)
        clear hb
        go_wp2_with fail
        go_ret
        exact ⟨rfl, hbl⟩
    · have hd : divF a b = (bE, bE, 2) := by rw [divF, if_neg h, k1]
      have h_ := fun w => Div_any a b w ha hb
      simp only [hd] at h_
      have HD := Lib.hid h_
      clear h_
      have h_ := fun w => Check_any a w ha
      simp only [k2] at h_
      have HA := Lib.hid h_
      clear h_
      have h_ := fun w => Check_any b w hb
      simp only [k3] at h_
      have HB := Lib.hid h_
      clear h_
      clear hd k1 k2 h k3
      by_cases hz : b.size = 0
      · clear HA HB
        obtain rfl : b = bE := size_bE hz
        clear hz
        go_enter Try.func6, Try.ntmps6
        have hbl : Below w.heap.size w w := Below.refl _ _
        have hE := bE_nil
        go_wp2_with fail
        refine (sane_any _).mono ?_
        rintro e w1 ⟨rfl, hb⟩
        replace hbl := hbl.trans (hb.mono hbl.size)
        clear hb
        go_wp2_with fail
        refine (HD.out _).mono ?_
        rintro e w2 ⟨rfl, hb⟩
        replace hbl := hbl.trans (hb.mono hbl.size)
        clear hb
        go_wp2_with fail
        go_ret
        exact ⟨rfl, hbl⟩
      · skip
        have hz' := size_ne hz
        clear hz
        go_enter Try.func6, Try.ntmps6
        have hbl : Below w.heap.size w w := Below.refl _ _
        have hE := bE_nil
        go_wp2_with fail
        refine (sane_any _).mono ?_
        rintro e w1 ⟨rfl, hb⟩
        replace hbl := hbl.trans (hb.mono hbl.size)
        clear hb
        go_wp2_with fail
        refine (HD.out _).mono ?_
        rintro e w2 ⟨rfl, hb⟩
        replace hbl := hbl.trans (hb.mono hbl.size)
        clear hb
        go_wp2_with fail
        refine (HA.out _).mono ?_
        rintro e w3 ⟨rfl, hb⟩
        replace hbl := hbl.trans (hb.mono hbl.size)
        clear hb
        go_wp2_with fail
        refine (HB.out _).mono ?_
        rintro e w4 ⟨rfl, hb⟩
        replace hbl := hbl.trans (hb.mono hbl.size)
        clear hb
        go_wp2_with fail
        go_ret
        exact ⟨rfl, hbl⟩
    · have hd : divF a b = (bE, bE, 60) := by rw [divF, if_neg h, k1]
      have h_ := fun w => Div_any a b w ha hb
      simp only [hd] at h_
      have HD := Lib.hid h_
      clear h_
      have h_ := fun w => Check_any a w ha
      simp only [k2] at h_
      have HA := Lib.hid h_
      clear h_
      clear hd k1 k2 h
      by_cases hz : b.size = 0
      · clear HA
        obtain rfl : b = bE := size_bE hz
        clear hz
        go_enter Try.func6, Try.ntmps6
        have hbl : Below w.heap.size w w := Below.refl _ _
        have hE := bE_nil
        go_wp2_with fail
        refine (sane_any _).mono ?_
        rintro e w1 ⟨rfl, hb⟩
        replace hbl := hbl.trans (hb.mono hbl.size)
        clear hb
        go_wp2_with fail
        refine (HD.out _).mono ?_
        rintro e w2 ⟨rfl, hb⟩
        replace hbl := hbl.trans (hb.mono hbl.size)
        clear hb
        go_wp2_with fail
        go_ret
        exact ⟨rfl, hbl⟩
      · skip
        have hz' := size_ne hz
        clear hz
        go_enter Try.func6, Try.ntmps6
        have hbl : Below w.heap.size w w := Below.refl _ _
        have hE := bE_nil
        go_wp2_with fail
        refine (sane_any _).mono ?_
        rintro e w1 ⟨rfl, hb⟩
        replace hbl := hbl.trans (hb.mono hbl.size)
        clear hb
        go_wp2_with fail
        refine (HD.out _).mono ?_
        rintro e w2 ⟨rfl, hb⟩
        replace hbl := hbl.trans (hb.mono hbl.size)
        clear hb
        go_wp2_with fail
        refine (HA.out _).mono ?_
        rintro e w3 ⟨rfl, hb⟩
        replace hbl := hbl.trans (hb.mono hbl.size)
        clear hb
        go_wp2_with fail
        go_ret
        exact ⟨rfl, hbl⟩
    · have hd : divF a b = (bE, bE, 60) := by rw [divF, if_neg h, k1]
      have h_ := fun w => Div_any a b w ha hb
      simp only [hd] at h_
      have HD := Lib.hid h_
      clear h_
      have h_ := fun w => Check_any a w ha
      simp only [k2] at h_
      have HA := Lib.hid h_
      clear h_
      clear hd k1 k2 h
      by_cases hz : b.size = 0
      · clear HA
        obtain rfl : b = bE := size_bE hz
        clear hz
        go_enter Try.func6, Try.ntmps6
        have hbl : Below w.heap.size w w := Below.refl _ _
        have hE := bE_nil
        go_wp2_with fail
        refine (sane_any _).mono ?_
        rintro e w1 ⟨rfl, hb⟩
        replace hbl := hbl.trans (hb.mono hbl.size)
        clear hb
        go_wp2_with fail
        refine (HD.out _).mono ?_
        rintro e w2 ⟨rfl, hb⟩
        replace hbl := hbl.trans (hb.mono hbl.size)
        clear hb
        go_wp2_with fail
        go_ret
        exact ⟨rfl, hbl⟩
      · skip
        have hz' := size_ne hz
        clear hz
        go_enter Try.func6, Try.ntmps6
        have hbl : Below w.heap.size w w := Below.refl _ _
        have hE := bE_nil
        go_wp2_with fail
        refine (sane_any _).mono ?_
        rintro e w1 ⟨rfl, hb⟩
        replace hbl := hbl.trans (hb.mono hbl.size)
        clear hb
        go_wp2_with fail
        refine (HD.out _).mono ?_
        rintro e w2 ⟨rfl, hb⟩
        replace hbl := hbl.trans (hb.mono hbl.size)
        clear hb
        go_wp2_with fail
        refine (HA.out _).mono ?_
        rintro e w3 ⟨rfl, hb⟩
        replace hbl := hbl.trans (hb.mono hbl.size)
        clear hb
        go_wp2_with fail
        go_ret
        exact ⟨rfl, hbl⟩
    · have hd : divF a b = (bE, bE, 60) := by rw [divF, if_neg h, k1]
      have h_ := fun w => Div_any a b w ha hb
      simp only [hd] at h_
      have HD := Lib.hid h_
      clear h_
      have h_ := fun w => Check_any a w ha
      simp only [k2] at h_
      have HA := Lib.hid h_
      clear h_
      have h_ := fun w => Check_any b w hb
      simp only [k3] at h_
      have HB := Lib.hid h_
      clear h_
      clear hd k1 k2 h k3
      by_cases hz : b.size = 0
      · clear HA HB
        obtain rfl : b = bE := size_bE hz
        clear hz
        go_enter Try.func6, Try.ntmps6
        have hbl : Below w.heap.size w w := Below.refl _ _
        have hE := bE_nil
        go_wp2_with fail
        refine (sane_any _).mono ?_
        rintro e w1 ⟨rfl, hb⟩
        replace hbl := hbl.trans (hb.mono hbl.size)
        clear hb
        go_wp2_with fail
        refine (HD.out _).mono ?_
        rintro e w2 ⟨rfl, hb⟩
        replace hbl := hbl.trans (hb.mono hbl.size)
        clear hb
        go_wp2_with fail
        go_ret
        exact ⟨rfl, hbl⟩
      · skip
        have hz' := size_ne hz
        clear hz
        go_enter Try.func6, Try.ntmps6
        have hbl : Below w.heap.size w w := Below.refl _ _
        have hE := bE_nil
        go_wp2_with fail
        refine (sane_any _).mono ?_
        rintro e w1 ⟨rfl, hb⟩
        replace hbl := hbl.trans (hb.mono hbl.size)
        clear hb
        go_wp2_with fail
        refine (HD.out _).mono ?_
        rintro e w2 ⟨rfl, hb⟩
        replace hbl := hbl.trans (hb.mono hbl.size)
        clear hb
        go_wp2_with fail
        refine (HA.out _).mono ?_
        rintro e w3 ⟨rfl, hb⟩
        replace hbl := hbl.trans (hb.mono hbl.size)
        clear hb
        go_wp2_with fail
        refine (HB.out _).mono ?_
        rintro e w4 ⟨rfl, hb⟩
        replace hbl := hbl.trans (hb.mono hbl.size)
        clear hb
        go_wp2_with fail
        go_ret
        exact ⟨rfl, hbl⟩
    · have hd : divF a b = (bE, bE, 60) := by rw [divF, if_neg h, k1]
      have h_ := fun w => Div_any a b w ha hb
      simp only [hd] at h_
      have HD := Lib.hid h_
      clear h_
      have h_ := fun w => Check_any a w ha
      simp only [k2] at h_
      have HA := Lib.hid h_
      clear h_
      have h_ := fun w => Check_any b w hb
      simp only [k3] at h_
      have HB := Lib.hid h_
      clear h_
      clear hd k1 k2 h k3
      by_cases hz : b.size = 0
      · clear HA HB
        obtain rfl : b = bE := size_bE hz
        clear hz
        go_enter Try.func6, Try.ntmps6
        have hbl : Below w.heap.size w w := Below.refl _ _
        have hE := bE_nil
        go_wp2_with fail
        refine (sane_any _).mono ?_
        rintro e w1 ⟨rfl, hb⟩
        replace hbl := hbl.trans (hb.mono hbl.size)
        clear hb
        go_wp2_with fail
        refine (HD.out _).mono ?_
        rintro e w2 ⟨rfl, hb⟩
        replace hbl := hbl.trans (hb.mono hbl.size)
        clear hb
        go_wp2_with fail
        go_ret
        exact ⟨rfl, hbl⟩
      · skip
        have hz' := size_ne hz
        clear hz
        go_enter Try.func6, Try.ntmps6
        have hbl : Below w.heap.size w w := Below.refl _ _
        have hE := bE_nil
        go_wp2_with fail
        refine (sane_any _).mono ?_
        rintro e w1 ⟨rfl, hb⟩
        replace hbl := hbl.trans (hb.mono hbl.size)
        clear hb
        go_wp2_with fail
        refine (HD.out _).mono ?_
        rintro e w2 ⟨rfl, hb⟩
        replace hbl := hbl.trans (hb.mono hbl.size)
        clear hb
        go_wp2_with fail
        refine (HA.out _).mono ?_
        rintro e w3 ⟨rfl, hb⟩
        replace hbl := hbl.trans (hb.mono hbl.size)
        clear hb
        go_wp2_with fail
        refine (HB.out _).mono ?_
        rintro e w4 ⟨rfl, hb⟩
        replace hbl := hbl.trans (hb.mono hbl.size)
        clear hb
        go_wp2_with fail
        go_ret
        exact ⟨rfl, hbl⟩

end Go.Proofs.Ytlkpphoioocjeaa
