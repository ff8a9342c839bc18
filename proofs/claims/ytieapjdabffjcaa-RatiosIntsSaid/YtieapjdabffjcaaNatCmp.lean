/-
  The walks of package naturals: comparing.
-/
import Derived.Test.YtieapjdabffjcaaNat
namespace Go.Proofs.Ytieapjdabffjcaa
open Go.RowKit Nm

set_option maxHeartbeats 400000 in
theorem compare_any (B B' : Nat) (v u : Value) (n m : Nat) (w : World) (hv : OwnU w B v (digs n)) (hu : OwnU w B' u (digs m)) (hln : (digs n).length ≤ 1048576) (hlm : (digs m).length ≤ 1048576) :
    Calls Try.prog 85 #[v, u] w fun e w' => e = .returned (.int .i64 (cmpN n m)) ∧ ∃ k, w' = w.drewN k := by
  obtain ⟨oa, cap, rfl, hnone, hsome, hcap, hcm⟩ := hv.shape
  obtain ⟨ob, cap', rfl, hnone', hsome', hcap', hcm'⟩ := hu.shape
  unfold maxLen at hcm hcm'
  have HN := Lib.hid hnone; clear hnone
  have HS := Lib.hid hsome; clear hsome
  have HO := Lib.hid hv; clear hv
  have HN' := Lib.hid hnone'; clear hnone'
  have HS' := Lib.hid hsome'; clear hsome'
  have HO' := Lib.hid hu; clear hu
  by_cases hlen : (digs n).length = (digs m).length
  · have hlen1 : (((digs n).length : Int) - ((digs m).length : Int) == 0) = true := by
      rw [beq_iff_eq]; omega
    have hl1 : (digs n).length ≤ (digs m).length := by omega
    have hl2 : (digs m).length ≤ (digs n).length := by omega
    have HL := Lib.hid hlen; clear hlen
    go_enter Try.func85, Try.ntmps85
    go_wp2_with fail
    go_step3
    go_wp2_with fail
    go_step3
    go_wp2_with fail
    go_loopw [5, 6] (fun c i wr => ∃ j : Nat, j ≤ (digs n).length ∧ c = .int .i64 (((digs n).length : Int) - (digs m).length) ∧ i = .int .i64 ((j : Int) - 1) ∧ (digs n).drop j = (digs m).drop j ∧ ∃ nq, wr = w.drewN nq) (fun _ i _ => (intOf i + 1).toNat)
    case atStart => exact ⟨(digs n).length, Nat.le_refl _, rfl, by rw [HL.out], by rw [List.drop_length, HL.out, List.drop_length], 0, rfl⟩
    case round =>
      obtain ⟨j, hj, rfl, rfl, hd, nq, rfl⟩ := hrel
      have HD := Lib.hid hd; clear hd
      by_cases h0 : 0 < j
      · obtain ⟨a, rfl⟩ : ∃ a, oa = some a := by
          cases oa with
          | some a => exact ⟨a, rfl⟩
          | none => have h := HN.out rfl; rw [h] at hj; simp at hj; omega
        obtain ⟨a', rfl⟩ : ∃ a, ob = some a := by
          cases ob with
          | some a => exact ⟨a, rfl⟩
          | none => have h := HN'.out rfl; rw [HL.out, h] at hj; simp at hj; omega
        obtain ⟨ha, hB, hlt⟩ := HS.out a rfl
        obtain ⟨g, o, sb⟩ := a
        cases ha
        obtain ⟨ha, hB', hlt'⟩ := HS'.out a' rfl
        obtain ⟨g', o, sb⟩ := a'
        cases ha
        have hc := OwnN.cell HO.out (j - 1) (by omega)
        generalize hx : (digs n)[j - 1] = x at hc
        have Hx := Lib.hid hx; clear hx
        have hc' := OwnN.cell HO'.out (j - 1) (by omega)
        generalize hy : (digs m)[j - 1] = y at hc'
        have Hy := Lib.hid hy; clear hy
        by_cases hxy : x < y
        · go_wp2_with fail
          go_quiet (fail)
          go_wp2_with fail
          simp only [Exit.noGoto, Exit.then]
          go_wp2_with fail
          go_ret
          refine ⟨ret_int (cmpN_lt ?_).symm, _, rfl⟩
          have h := dv_lt_of_digit (digs n) (digs m) (small_digs n) (j - 1) (by omega) (by omega) (by rw [show j - 1 + 1 = j by omega]; exact HD.out) (by rw [Hx.out, Hy.out]; exact hxy)
          rw [dv_digs, dv_digs] at h; exact h
        · by_cases hyx : y < x
          · go_wp2_with fail
            go_quiet (fail)
            go_wp2_with fail
            go_quiet (fail)
            go_wp2_with fail
            simp only [Exit.noGoto, Exit.then]
            go_wp2_with fail
            go_ret
            refine ⟨ret_int (cmpN_gt ?_).symm, _, rfl⟩
            have h := dv_lt_of_digit (digs m) (digs n) (small_digs m) (j - 1) (by omega) (by omega) (by rw [show j - 1 + 1 = j by omega]; exact HD.out.symm) (by rw [Hx.out, Hy.out]; exact hyx)
            rw [dv_digs, dv_digs] at h; exact h
          · go_wp2_with fail
            go_quiet (fail)
            go_wp2_with fail
            go_quiet (fail)
            go_wp2_with fail
            go_roundw
            case rel =>
              refine ⟨j - 1, by omega, rfl, by rw [show ((j - 1 : Nat) : Int) = (j : Int) - 1 by omega], ?_, _, rfl⟩
              rw [List.drop_eq_getElem_cons (show j - 1 < (digs n).length by omega), List.drop_eq_getElem_cons (show j - 1 < (digs m).length by omega), Hx.out, Hy.out, show j - 1 + 1 = j by omega, HD.out]
              congr 1; omega
            case measure => simp [intOf]; omega
      · obtain rfl : j = 0 := by omega
        go_wp2_with fail
        simp only [Exit.noGoto, Exit.then]
        go_wp2_with fail
        go_ret
        refine ⟨ret_int ?_, _, rfl⟩
        have h := HD.out
        simp only [List.drop_zero] at h
        rw [cmpN_eq (by rw [← dv_digs n, h, dv_digs])]
        omega
  · rcases Nat.lt_or_gt_of_ne hlen with hlt | hgt
    · have hlen1 : (((digs n).length : Int) - ((digs m).length : Int) == 0) = false := by
        rw [beq_eq_false_iff_ne]; omega
      have h1 : (if ((digs n).length : Int) - ((digs m).length : Int) < 1 then ((digs n).length : Int) - ((digs m).length : Int) else 1) ≤ -1 := by
        rw [if_pos (by omega)]; omega
      go_enter Try.func85, Try.ntmps85
      go_wp2_with fail
      go_ret
      exact ⟨ret_int (cmpN_lt (digs_lt_of_length hlt)).symm, 0, rfl⟩
    · have hlen1 : (((digs n).length : Int) - ((digs m).length : Int) == 0) = false := by
        rw [beq_eq_false_iff_ne]; omega
      go_enter Try.func85, Try.ntmps85
      go_wp2_with fail
      go_ret
      exact ⟨ret_int (cmpN_gt (digs_lt_of_length hgt)).symm, 0, rfl⟩

end Go.Proofs.Ytieapjdabffjcaa
