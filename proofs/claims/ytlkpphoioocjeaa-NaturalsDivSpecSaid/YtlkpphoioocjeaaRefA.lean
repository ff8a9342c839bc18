/-
  The walks of the reference for naturals: Natural, Check, both, short, less, Compare.
-/
import Derived.Test.YtlkpphoioocjeaaNat
import Derived.Test.YtlkpphoioocjeaaNmR
import Derived.Test.YtlkpphoioocjeaaWI
namespace Go.Proofs.Ytlkpphoioocjeaa
open Go.RowKit Nm

set_option maxHeartbeats 400000 in
theorem rNatural_any (s : ByteArray) (w : World) :
    Calls Try.prog 36 #[.string s] w fun e w' => e = .returned (.bool (isN s)) ∧ w = w' := by
  by_cases h0 : 0 < s.size
  · have h1 : s.toList.isEmpty = false := isEmpty_false h0
    go_enter Try.func36, Try.ntmps36
    go_wp2
    go_ret
    exact ⟨ret_bool (isN_pos h0).symm, rfl⟩
  · have h1 : s.toList.isEmpty = true := isEmpty_true h0
    go_enter Try.func36, Try.ntmps36
    go_wp2
    go_ret
    exact ⟨ret_bool (isN_nil h0).symm, rfl⟩

theorem chk1_no {s : ByteArray} (h : isN s = false) : chkN [s] = 60 := by simp [chkN, h]
theorem chk1_big {s : ByteArray} (h : isN s = true) (h2 : 256 < s.size) : chkN [s] = 2 := by simp [chkN, h]; omega
theorem chk1_ok {s : ByteArray} (h : isN s = true) (h2 : s.size ≤ 256) : chkN [s] = 0 := by simp [chkN, h]; omega
theorem chk2_no {a b : ByteArray} (h : isN a = false ∨ isN b = false) : chkN [a, b] = 60 := by rcases h with h | h <;> simp [chkN, h]
theorem chk2_big {a b : ByteArray} (h : isN a = true) (h' : isN b = true) (h2 : 256 < a.size ∨ 256 < b.size) : chkN [a, b] = 2 := by simp [chkN, h, h']; omega

set_option maxHeartbeats 400000 in
theorem rCheck_any (s : ByteArray) (w : World) (hs : s.size ≤ maxLen) :
    Calls Try.prog 19 #[.string s] w fun e w' => e = .returned (.int .i64 (chkN [s])) ∧ w = w' := by
  have hN := fun w => rNatural_any s w
  by_cases hn : isN s = true
  · by_cases h2 : s.size ≤ 256
    · rw [chk1_ok hn h2]
      rw [hn] at hN
      have HN := Lib.hid hN
      clear hn hN
      go_enter Try.func19, Try.ntmps19
      go_wp2_with fail
      refine (HN.out _).mono ?_
      rintro e w1 ⟨rfl, rfl⟩
      go_wp2_with fail
      go_ret
      exact ⟨rfl, rfl⟩
    · have h2 : 256 < s.size := by omega
      rw [chk1_big hn h2]
      rw [hn] at hN
      have HN := Lib.hid hN
      clear hn hN
      go_enter Try.func19, Try.ntmps19
      go_wp2_with fail
      refine (HN.out _).mono ?_
      rintro e w1 ⟨rfl, rfl⟩
      go_wp2_with fail
      go_ret
      exact ⟨rfl, rfl⟩
  · have hn : isN s = false := by simpa using hn
    rw [chk1_no hn]
    rw [hn] at hN
    have HN := Lib.hid hN
    clear hn hN
    go_enter Try.func19, Try.ntmps19
    go_wp2_with fail
    refine (HN.out _).mono ?_
    rintro e w1 ⟨rfl, rfl⟩
    go_wp2_with fail
    go_ret
    exact ⟨rfl, rfl⟩

-- GEN
set_option maxHeartbeats 400000 in
theorem both_1 (a b : ByteArray) (w : World) (ha : isN a = false) :
    Calls Try.prog 40 #[.string a, .string b] w fun e w' => e = .returned (.int .i64 60) ∧ w = w' := by
  have Ha := Lib.hid (fun w => by have h_ := rNatural_any a w; rw [ha] at h_; exact h_)
  clear ha
  go_enter Try.func40, Try.ntmps40
  go_wp2_with fail
  refine (Ha.out _).mono ?_
  rintro e w1 ⟨rfl, rfl⟩
  go_wp2_with fail
  go_ret
  exact ⟨rfl, rfl⟩

set_option maxHeartbeats 400000 in
theorem both_2 (a b : ByteArray) (w : World) (ha : isN a = true) (hb : isN b = false) :
    Calls Try.prog 40 #[.string a, .string b] w fun e w' => e = .returned (.int .i64 60) ∧ w = w' := by
  have Ha := Lib.hid (fun w => by have h_ := rNatural_any a w; rw [ha] at h_; exact h_)
  clear ha
  have Hb := Lib.hid (fun w => by have h_ := rNatural_any b w; rw [hb] at h_; exact h_)
  clear hb
  go_enter Try.func40, Try.ntmps40
  go_wp2_with fail
  refine (Ha.out _).mono ?_
  rintro e w1 ⟨rfl, rfl⟩
  go_wp2_with fail
  refine (Hb.out _).mono ?_
  rintro e w1 ⟨rfl, rfl⟩
  go_wp2_with fail
  go_ret
  exact ⟨rfl, rfl⟩

set_option maxHeartbeats 400000 in
theorem both_3 (a b : ByteArray) (w : World) (ha : isN a = true) (hb : isN b = true) (h1 : 256 < a.size) :
    Calls Try.prog 40 #[.string a, .string b] w fun e w' => e = .returned (.int .i64 2) ∧ w = w' := by
  have Ha := Lib.hid (fun w => by have h_ := rNatural_any a w; rw [ha] at h_; exact h_)
  clear ha
  have Hb := Lib.hid (fun w => by have h_ := rNatural_any b w; rw [hb] at h_; exact h_)
  clear hb
  go_enter Try.func40, Try.ntmps40
  go_wp2_with fail
  refine (Ha.out _).mono ?_
  rintro e w1 ⟨rfl, rfl⟩
  go_wp2_with fail
  refine (Hb.out _).mono ?_
  rintro e w1 ⟨rfl, rfl⟩
  go_wp2_with fail
  go_ret
  exact ⟨rfl, rfl⟩

set_option maxHeartbeats 400000 in
theorem both_4 (a b : ByteArray) (w : World) (ha : isN a = true) (hb : isN b = true) (h1 : a.size ≤ 256) (h2 : 256 < b.size) :
    Calls Try.prog 40 #[.string a, .string b] w fun e w' => e = .returned (.int .i64 2) ∧ w = w' := by
  have Ha := Lib.hid (fun w => by have h_ := rNatural_any a w; rw [ha] at h_; exact h_)
  clear ha
  have Hb := Lib.hid (fun w => by have h_ := rNatural_any b w; rw [hb] at h_; exact h_)
  clear hb
  go_enter Try.func40, Try.ntmps40
  go_wp2_with fail
  refine (Ha.out _).mono ?_
  rintro e w1 ⟨rfl, rfl⟩
  go_wp2_with fail
  refine (Hb.out _).mono ?_
  rintro e w1 ⟨rfl, rfl⟩
  go_wp2_with fail
  go_ret
  exact ⟨rfl, rfl⟩

set_option maxHeartbeats 400000 in
theorem both_5 (a b : ByteArray) (w : World) (ha : isN a = true) (hb : isN b = true) (h1 : a.size ≤ 256) (h2 : b.size ≤ 256) :
    Calls Try.prog 40 #[.string a, .string b] w fun e w' => e = .returned (.int .i64 0) ∧ w = w' := by
  have Ha := Lib.hid (fun w => by have h_ := rNatural_any a w; rw [ha] at h_; exact h_)
  clear ha
  have Hb := Lib.hid (fun w => by have h_ := rNatural_any b w; rw [hb] at h_; exact h_)
  clear hb
  go_enter Try.func40, Try.ntmps40
  go_wp2_with fail
  refine (Ha.out _).mono ?_
  rintro e w1 ⟨rfl, rfl⟩
  go_wp2_with fail
  refine (Hb.out _).mono ?_
  rintro e w1 ⟨rfl, rfl⟩
  go_wp2_with fail
  go_ret
  exact ⟨rfl, rfl⟩

theorem both_any (a b : ByteArray) (w : World) :
    Calls Try.prog 40 #[.string a, .string b] w fun e w' => e = .returned (.int .i64 (chkN [a, b])) ∧ w = w' := by
  by_cases ha : isN a = true
  · by_cases hb : isN b = true
    · by_cases h1 : a.size ≤ 256
      · by_cases h2 : b.size ≤ 256
        · rw [chk2_of ha hb h1 h2]; exact both_5 a b w ha hb h1 h2
        · rw [chk2_big ha hb (by omega)]; exact both_4 a b w ha hb h1 (by omega)
      · rw [chk2_big ha hb (by omega)]; exact both_3 a b w ha hb (by omega)
    · rw [chk2_no (by simp [hb])]; exact both_2 a b w ha (by simpa using hb)
  · rw [chk2_no (by simp [ha])]; exact both_1 a b w (by simpa using ha)

set_option maxHeartbeats 400000 in
theorem rshort_a (s : ByteArray) (w : World) (h : s.size ≤ 256) :
    Calls Try.prog 45 #[.string s] w fun e w' => e = .returned (.tuple #[.string (s, 0).1, .int .i64 (s, 0).2]) ∧ w = w' := by
  go_enter Try.func45, Try.ntmps45
  go_wp2_with fail
  go_ret2
  exact ⟨rfl, rfl⟩

set_option maxHeartbeats 400000 in
theorem rshort_b (s : ByteArray) (w : World) (h : 256 < s.size) :
    Calls Try.prog 45 #[.string s] w fun e w' => e = .returned (.tuple #[.string (bE, 2).1, .int .i64 (bE, 2).2]) ∧ w = w' := by
  go_enter Try.func45, Try.ntmps45
  go_wp2_with fail
  go_ret2
  exact ⟨rfl, rfl⟩

theorem rshort_any (n : Nat) (w : World) :
    Calls Try.prog 45 #[.string (encS n)] w fun e w' => e = .returned (.tuple #[.string (shortN n).1, .int .i64 (shortN n).2]) ∧ w = w' := by
  by_cases h : (encS n).size ≤ 256
  · rw [show shortN n = (encS n, 0) from if_pos h]; exact rshort_a _ w h
  · rw [show shortN n = (bE, 2) from if_neg h]; exact rshort_b _ w (by omega)

theorem drewN2 (w : World) (a b : Nat) : (w.drewN a).drewN b = w.drewN (a + b) := by unfold World.drewN; simp only [Nat.add_assoc]
theorem nv_lt_of_size {a b : ByteArray} (hb : isN b = true) (h : a.size < b.size) : nv a < nv b := by
  have h1 : nv a < 256 ^ a.size := by
    have := val_lt a.data.toList
    rw [sdata_length] at this
    exact this
  have h2 : (enc (nv b)).length = b.size := by
    have := congrArg ByteArray.size (encS_nv b hb)
    rw [size_encS] at this
    exact this
  apply Decidable.byContradiction
  intro hc
  have h3 := (enc_length_le (nv b) a.size).2 (by omega)
  omega
theorem nv_lt_of_byte {a b : ByteArray} (hs : a.size = b.size) (k : Nat) (ha : k < a.size) (hb : k < b.size) (ht : a.data.toList.take k = b.data.toList.take k) (h : a[k].toNat < b[k].toNat) : nv a < nv b := by
  have la := sdata_length a
  have lb := sdata_length b
  have e1 : a.data.toList = a.data.toList.take k ++ a[k] :: a.data.toList.drop (k + 1) := by
    conv => lhs; rw [← List.take_append_drop k a.data.toList, List.drop_eq_getElem_cons (by omega)]
    rfl
  have e2 : b.data.toList = b.data.toList.take k ++ b[k] :: b.data.toList.drop (k + 1) := by
    conv => lhs; rw [← List.take_append_drop k b.data.toList, List.drop_eq_getElem_cons (by omega)]
    rfl
  show val a.data.toList < val b.data.toList
  rw [e1, e2, ht]
  exact val_lt_of_digit _ _ _ _ _ (by rw [List.length_drop, List.length_drop]; omega) h
theorem take_same {a b : ByteArray} (k : Nat) (ha : k < a.size) (hb : k < b.size) (ht : a.data.toList.take k = b.data.toList.take k) (h : (a[k].toNat : Int) = (b[k].toNat : Int)) : a.data.toList.take (k + 1) = b.data.toList.take (k + 1) := by
  have la := sdata_length a
  have lb := sdata_length b
  rw [List.take_succ_eq_append_getElem (by omega), List.take_succ_eq_append_getElem (by omega), ht]
  congr 2
  show a[k] = b[k]
  exact UInt8.toNat_inj.1 (by omega)

set_option maxHeartbeats 1000000 in
theorem less_ref (a b : ByteArray) (w : World) (ha : isN a = true) (hb : isN b = true) (hsa : a.size ≤ maxLen) (hsb : b.size ≤ maxLen) :
    Calls Try.prog 41 #[.string a, .string b] w fun e w' => e = .returned (.bool (decide (nv a < nv b))) ∧ ∃ k, w' = w.drewN k := by
  unfold maxLen at hsa hsb
  by_cases hs : a.size = b.size
  · have HS := Lib.hid hs
    have i1 : a.size ≤ b.size := by omega
    have i2 : b.size ≤ a.size := by omega
    clear hs ha hb
    go_enter Try.func41, Try.ntmps41
    go_wp2_with fail
    go_loopw [5] (fun i wr => ∃ k : Nat, k ≤ a.size ∧ i = .int .i64 (k : Int) ∧ a.data.toList.take k = b.data.toList.take k ∧ ∃ nq, wr = w.drewN nq) (fun i _ => a.size - (intOf i).toNat)
    case atStart => exact ⟨0, Nat.zero_le _, rfl, rfl, 0, rfl⟩
    case round =>
      obtain ⟨k, hk, rfl, ht, nq, rfl⟩ := hrel
      have HT := Lib.hid ht; clear ht
      by_cases h0 : k < a.size
      · have h0b : k < b.size := by omega
        by_cases h1 : a[k].toNat < b[k].toNat
        · go_wp2_with fail
          go_quiet (fail)
          go_wp2_with fail
          go_quiet (fail)
          go_wp2_with fail
          go_wp2_with fail
          go_ret
          exact ⟨ret_bool (decide_eq_true (nv_lt_of_byte HS.out k h0 h0b HT.out h1)).symm, _, by rw [drewN2, drewN2]⟩
        · by_cases h2 : b[k].toNat < a[k].toNat
          · go_wp2_with fail
            go_quiet (fail)
            go_wp2_with fail
            go_quiet (fail)
            go_wp2_with fail
            go_wp2_with fail
            go_ret
            exact ⟨ret_bool (decide_eq_false (Nat.lt_asymm (nv_lt_of_byte HS.out.symm k h0b h0 HT.out.symm h2))).symm, _, by rw [drewN2, drewN2]⟩
          · go_wp2_with fail
            go_quiet (fail)
            go_wp2_with fail
            go_roundw
            case rel => exact ⟨k + 1, by omega, by go_num, take_same k h0 h0b HT.out (by omega), _, rfl⟩
            case measure => simp [intOf]; omega
      · go_wp2_with fail
        go_ret
        have e : a.data.toList = b.data.toList := by
          have h := HT.out
          have la := sdata_length a
          have lb := sdata_length b
          rw [List.take_of_length_le (by omega), List.take_of_length_le (by omega)] at h
          exact h
        exact ⟨ret_bool (decide_eq_false (by show ¬ val a.data.toList < val b.data.toList; rw [e]; omega)).symm, nq, rfl⟩
  · by_cases h1 : a.size < b.size
    · have hl := Lib.hid (nv_lt_of_size hb h1)
      clear hs ha hb
      go_enter Try.func41, Try.ntmps41
      go_wp2_with fail
      go_ret
      exact ⟨ret_bool (by rw [decide_eq_true hl.out]), 0, rfl⟩
    · have h1 : b.size < a.size := by omega
      have hl := Lib.hid (nv_lt_of_size ha h1)
      clear hs ha hb
      go_enter Try.func41, Try.ntmps41
      go_wp2_with fail
      go_ret
      exact ⟨ret_bool (by rw [decide_eq_false (Nat.lt_asymm hl.out)]), 0, rfl⟩

end Go.Proofs.Ytlkpphoioocjeaa
