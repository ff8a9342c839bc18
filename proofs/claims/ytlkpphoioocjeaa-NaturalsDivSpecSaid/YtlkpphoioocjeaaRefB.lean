/-
  The walks of the reference for naturals: Compare, Of, Int.
-/
import Derived.Test.YtlkpphoioocjeaaRefA
import Derived.Test.YtlkpphoioocjeaaNatText
namespace Go.Proofs.Ytlkpphoioocjeaa
open Go.RowKit Nm

theorem cmp_cases (a b : ByteArray) (h : chkN [a, b] = 0) :
    (nv a < nv b ∧ cmpF a b = (-1, 0)) ∨ (¬ nv a < nv b ∧ nv b < nv a ∧ cmpF a b = (1, 0)) ∨ (¬ nv a < nv b ∧ ¬ nv b < nv a ∧ cmpF a b = (0, 0)) := by
  unfold cmpF
  rw [if_pos h]
  by_cases h1 : nv a < nv b
  · exact Or.inl ⟨h1, by rw [cmpN_lt h1]⟩
  · by_cases h2 : nv b < nv a
    · exact Or.inr (Or.inl ⟨h1, h2, by rw [cmpN_gt h2]⟩)
    · exact Or.inr (Or.inr ⟨h1, h2, by rw [cmpN_eq (by omega)]⟩)

set_option maxHeartbeats 1000000 in
theorem rCompare_any (a b : ByteArray) (w : World) (hsa : a.size ≤ maxLen) (hsb : b.size ≤ maxLen) :
    Calls Try.prog 17 #[.string a, .string b] w fun e w' => e = .returned (.tuple #[.int .i64 (cmpF a b).1, .int .i64 (cmpF a b).2]) ∧ ∃ k, w' = w.drewN k := by
  have h_ := fun w => both_any a b w
  by_cases h : chkN [a, b] = 0
  · obtain ⟨n1, n2, s1, s2⟩ := chk2_zero h
    rw [h] at h_
    have HB := Lib.hid h_
    have l1 := fun w => less_ref a b w n1 n2 hsa hsb
    have l2 := fun w => less_ref b a w n2 n1 hsb hsa
    obtain ⟨c1, e⟩ | ⟨c1, c2, e⟩ | ⟨c1, c2, e⟩ := cmp_cases a b h
    · rw [e]
      rw [decide_eq_true c1] at l1
      have L1 := Lib.hid l1
      clear l1 l2 h_ h e c1 n1 n2 s1 s2
      go_enter Try.func17, Try.ntmps17
      go_wp2_with fail
      refine (HB.out _).mono ?_
      rintro e w1 ⟨rfl, rfl⟩
      go_wp2_with fail
      refine (L1.out _).mono ?_
      rintro e w1 ⟨rfl, k, rfl⟩
      go_wp2_with fail
      go_ret2
      exact ⟨rfl, _, rfl⟩
    · rw [e]
      rw [decide_eq_false c1] at l1
      rw [decide_eq_true c2] at l2
      have L1 := Lib.hid l1
      have L2 := Lib.hid l2
      clear l1 l2 h_ h e c1 c2 n1 n2 s1 s2
      go_enter Try.func17, Try.ntmps17
      go_wp2_with fail
      refine (HB.out _).mono ?_
      rintro e w1 ⟨rfl, rfl⟩
      go_wp2_with fail
      refine (L1.out _).mono ?_
      rintro e w1 ⟨rfl, k, rfl⟩
      go_wp2_with fail
      refine (L2.out _).mono ?_
      rintro e w1 ⟨rfl, k', rfl⟩
      go_wp2_with fail
      go_ret2
      exact ⟨rfl, _, rfl⟩
    · rw [e]
      rw [decide_eq_false c1] at l1
      rw [decide_eq_false c2] at l2
      have L1 := Lib.hid l1
      have L2 := Lib.hid l2
      clear l1 l2 h_ h e c1 c2 n1 n2 s1 s2
      go_enter Try.func17, Try.ntmps17
      go_wp2_with fail
      refine (HB.out _).mono ?_
      rintro e w1 ⟨rfl, rfl⟩
      go_wp2_with fail
      refine (L1.out _).mono ?_
      rintro e w1 ⟨rfl, k, rfl⟩
      go_wp2_with fail
      refine (L2.out _).mono ?_
      rintro e w1 ⟨rfl, k', rfl⟩
      go_wp2_with fail
      go_ret2
      exact ⟨rfl, _, rfl⟩
  · have E : Hid (cmpF a b = (0, chkN [a, b])) := Lib.hid (if_neg h)
    have HB := Lib.hid h_
    have h2 : (chkN [a, b] != 0) = true := by simpa using h
    clear h_ h
    go_enter Try.func17, Try.ntmps17
    go_wp2_with fail
    refine (HB.out _).mono ?_
    rintro e w1 ⟨rfl, rfl⟩
    go_wp2_with fail
    go_ret2
    exact ⟨by rw [E.out]; rfl, 0, rfl⟩

theorem enc_len8 {n : Nat} (h : n < 9223372036854775808) : (enc n).length ≤ 8 := by
  rw [enc_length_le]
  exact Nat.lt_trans h (by decide)

theorem str1 {P : Program} (w : World) (x : Nat) (z : Int) (hz : z = (x : Int)) (_hx : x < 256) (src dst E : TypeId) (hs : P.underlying src = some (.slice E)) (he : P.underlying E = some (.int .u8)) (hd : P.underlying dst = some .string) :
    (convert src dst (.slice (some ⟨w.heap.size, 0, none⟩) 1 1)).run P (w.alloc (.cells #[.int .u8 z] E)) = .ok (.string ⟨#[UInt8.ofNat x]⟩) (w.alloc (.cells #[.int .u8 z] E)) := by
  subst hz
  rw [run_convert_bytes_arg (P := P) _ src E hs he w.heap.size 0 1 1 [((x : Nat) : Int)] (by simp) (fun i hi => by
    obtain rfl : i = 0 := by simp at hi; omega
    exact cell_one_new _ _ _ 0 _ rfl) dst hd]
  simp [strOfNums]

set_option maxHeartbeats 1000000 in
theorem rOf_any (n : Int) (w : World) (h1 : -9223372036854775808 ≤ n) (h2 : n ≤ 9223372036854775807) :
    Calls Try.prog 13 #[.int .i64 n] w fun e w' => e = .returned (.tuple #[.string (ofF n).1, .int .i64 (ofF n).2]) ∧ Below w.heap.size w w' := by
  by_cases hn : n < 0
  · have E : Hid (ofF n = (bE, 1)) := Lib.hid (if_pos hn)
    go_enter Try.func13, Try.ntmps13
    go_wp2_with fail
    go_ret2
    exact ⟨by rw [E.out]; rfl, Below.refl _ _⟩
  · obtain ⟨N, rfl⟩ := Int.eq_ofNat_of_zero_le (show 0 ≤ n by omega)
    have E : Hid (ofF ↑N = (encS N, 0)) := Lib.hid (by rw [ofF, if_neg (by omega)]; rfl)
    have h8 := enc_len8 (show N < 9223372036854775808 by omega)
    have H8 := Lib.hid h8
    clear h8
    go_enter Try.func13, Try.ntmps13
    go_wp2_with fail
    go_loopw [4, 0] (fun s n wr => ∃ (m : Nat) (t : ByteArray), m ≤ N ∧ n = .int .i64 (m : Int) ∧ s = .string t ∧ enc m ++ t.data.toList = enc N ∧ Below w.heap.size w wr) (fun _ n _ => (intOf n).toNat)
    case atStart => exact ⟨N, ⟨#[]⟩, Nat.le_refl _, rfl, rfl, by simp, Below.refl _ _⟩
    case round =>
      obtain ⟨m, t, hm, rfl, rfl, he, hbl⟩ := hrel
      have HE := Lib.hid he; clear he
      by_cases h0 : 0 < m
      · have hsz : t.size ≤ 8 := by
          have h := congrArg List.length HE.out
          rw [List.length_append, sdata_length] at h
          have := H8.out
          omega
        have hcv := fun d hd => str1 (P := Try.prog) wr (m % 256) ((m : Int) % 256) (by omega) (by omega) 45 d 5 Try.underlying45 Try.underlying5 hd
        go_wp2_with fail
        go_roundw
        case rel =>
          refine ⟨m / 256, _, by omega, by rw [show ((m / 256 : Nat) : Int) = (m : Int) / 256 by omega], rfl, ?_, hbl.alloc hbl.size _⟩
          have h := HE.out
          rw [enc_pos m h0, List.append_assoc] at h
          rw [← h]
          simp
        case measure => simp [intOf]; omega
      · obtain rfl : m = 0 := by omega
        have e : encS N = t := by
          have h := HE.out
          rw [enc_zero, List.nil_append] at h
          show (⟨(enc N).toArray⟩ : ByteArray) = t
          rw [← h]
        go_wp2_with fail
        go_ret2
        exact ⟨by rw [E.out, e]; rfl, hbl⟩

theorem head_big {s : ByteArray} (h8 : s.size = 8) : (128 ≤ s[0].toNat ↔ ¬ nv s < 9223372036854775808) := by
  have e : s.data.toList = s[0] :: s.data.toList.drop 1 := by
    have := sdata_length s
    conv => lhs; rw [← List.take_append_drop 1 s.data.toList]
    rw [List.take_succ_eq_append_getElem (by omega)]
    rfl
  have l : (s.data.toList.drop 1).length = 7 := by
    rw [List.length_drop, sdata_length]; omega
  have hv : nv s = s[0].toNat * 256 ^ 7 + val (s.data.toList.drop 1) := by
    show val s.data.toList = _
    rw [e, val_cons, l]
    simp
  have h1 := val_lt (s.data.toList.drop 1)
  rw [l] at h1
  have e7 : 256 ^ 7 = 72057594037927936 := by decide
  rw [e7] at h1 hv
  omega
theorem size_small {s : ByteArray} (h : s.size < 8) : nv s < 9223372036854775808 := by
  have h1 := val_lt s.data.toList
  rw [sdata_length] at h1
  have : 256 ^ s.size ≤ 256 ^ 7 := Nat.pow_le_pow_right (by omega) (by omega)
  have e7 : 256 ^ 7 = 72057594037927936 := by decide
  show val s.data.toList < _
  omega
theorem val_take_succ {s : ByteArray} (k : Nat) (h : k < s.size) : val (s.data.toList.take (k + 1)) = val (s.data.toList.take k) * 256 + s[k].toNat := by
  rw [List.take_succ_eq_append_getElem (by rw [sdata_length]; exact h), val_snoc]
  rfl
theorem val_take_le {s : ByteArray} (k : Nat) : val (s.data.toList.take k) ≤ nv s := by
  show _ ≤ val s.data.toList
  conv => rhs; rw [← List.take_append_drop k s.data.toList, val_append]
  have : 1 ≤ 256 ^ (s.data.toList.drop k).length := Nat.pow_pos (by omega)
  have := Nat.mul_le_mul_left (val (s.data.toList.take k)) this
  omega

set_option maxRecDepth 8000 in
set_option maxHeartbeats 1000000 in
theorem rInt_no (s : ByteArray) (w : World) (hs : s.size ≤ maxLen) (h : isN s = false ∨ (isN s = true ∧ (8 < s.size ∨ (s.size = 8 ∧ 128 ≤ s[0]!.toNat)))) :
    Calls Try.prog 15 #[.string s] w fun e w' => e = .returned (.tuple #[.int .i64 0, .bool false]) ∧ w = w' := by
  have h_ := fun w => rNatural_any s w
  unfold maxLen at hs
  rcases h with h | ⟨h, h1 | ⟨h1, h2⟩⟩
  · rw [h] at h_
    have HN := Lib.hid h_
    clear h_ h
    go_enter Try.func15, Try.ntmps15
    go_wp2_with fail
    refine (HN.out _).mono ?_
    rintro e w1 ⟨rfl, rfl⟩
    go_wp2_with fail
    go_ret2
    exact ⟨rfl, rfl⟩
  · rw [h] at h_
    have HN := Lib.hid h_
    clear h_ h
    go_enter Try.func15, Try.ntmps15
    go_wp2_with fail
    refine (HN.out _).mono ?_
    rintro e w1 ⟨rfl, rfl⟩
    go_wp2_with fail
    go_ret2
    exact ⟨rfl, rfl⟩
  · rw [h] at h_
    have HN := Lib.hid h_
    clear h_ h
    have i1 : s.size ≤ 8 := by omega
    have i2 : 8 ≤ s.size := by omega
    have i3 : 0 < s.size := by omega
    have h2' : 128 ≤ (s[0]'i3).toNat := by
      have : s[0]! = s[0]'i3 := by simp [i3]
      rw [← this]; exact h2
    clear h2 h1
    go_enter Try.func15, Try.ntmps15
    go_wp2_with fail
    refine (HN.out _).mono ?_
    rintro e w1 ⟨rfl, rfl⟩
    go_wp2_with fail
    go_ret2
    exact ⟨rfl, rfl⟩

set_option maxRecDepth 8000 in
set_option maxHeartbeats 1000000 in
theorem rInt_yes (s : ByteArray) (w : World) (h : isN s = true) (h8 : s.size ≤ 8) (hv : nv s < 9223372036854775808) :
    Calls Try.prog 15 #[.string s] w fun e w' => e = .returned (.tuple #[.int .i64 ((nv s : Nat) : Int), .bool true]) ∧ w = w' := by
  have h_ := fun w => rNatural_any s w
  rw [h] at h_
  have HN := Lib.hid h_
  by_cases h1 : s.size < 8
  · clear h8
    have HV := Lib.hid hv
    clear h_ h hv
    go_enter Try.func15, Try.ntmps15
    go_wp2_with fail
    refine (HN.out _).mono ?_
    rintro e w1 ⟨rfl, rfl⟩
    go_wp2_with fail
    go_loopw [4, 5] (fun n i wr => ∃ k x : Nat, k ≤ s.size ∧ n = .int .i64 (x : Int) ∧ i = .int .i64 (k : Int) ∧ x = val (s.data.toList.take k) ∧ w = wr) (fun _ i _ => s.size - (intOf i).toNat)
    case atStart => exact ⟨0, 0, Nat.zero_le _, rfl, rfl, by simp [val_nil], rfl⟩
    case round =>
      obtain ⟨k, x, hk, rfl, rfl, hx, rfl⟩ := hrel
      have HX := Lib.hid hx
      clear hx
      by_cases h0 : k < s.size
      · have HS : Hid (256 * x + s[k].toNat = val (s.data.toList.take (k + 1))) := Lib.hid (by rw [val_take_succ k h0, ← HX.out, Nat.mul_comm])
        have hl : 256 * x + s[k].toNat < 9223372036854775808 := Nat.lt_of_le_of_lt (by rw [HS.out]; exact val_take_le (k + 1)) HV.out
        have hl2 : 256 * (x : Int) + (s[k].toNat : Int) < 9223372036854775808 := by omega
        clear hl
        go_wp2_with fail
        go_roundw
        case rel => exact ⟨k + 1, 256 * x + s[k].toNat, by omega, by go_num, by go_num, HS.out, trivial⟩
        case measure => simp [intOf]; omega
      · go_wp2_with fail
        go_ret2
        have e : x = nv s := by
          rw [HX.out, List.take_of_length_le (by rw [sdata_length]; omega)]
          rfl
        exact ⟨by rw [← e]; rfl, rfl⟩
  · have i2 : 8 ≤ s.size := by omega
    have i3 : 0 < s.size := by omega
    have h2 : (s[0]'i3).toNat < 128 := by
      have := head_big (s := s) (by omega)
      omega
    clear h1
    have HV := Lib.hid hv
    clear h_ h hv
    go_enter Try.func15, Try.ntmps15
    go_wp2_with fail
    refine (HN.out _).mono ?_
    rintro e w1 ⟨rfl, rfl⟩
    go_wp2_with fail
    generalize (s[0]'i3).toNat = b0 at *
    rename_i q1 q2 q3 q4 q5
    clear q2 h8
    go_loopw [4, 5] (fun n i wr => ∃ k x : Nat, k ≤ s.size ∧ n = .int .i64 (x : Int) ∧ i = .int .i64 (k : Int) ∧ x = val (s.data.toList.take k) ∧ w = wr) (fun _ i _ => s.size - (intOf i).toNat)
    case atStart => exact ⟨0, 0, Nat.zero_le _, rfl, rfl, by simp [val_nil], rfl⟩
    case round =>
      obtain ⟨k, x, hk, rfl, rfl, hx, rfl⟩ := hrel
      have HX := Lib.hid hx
      clear hx
      by_cases h0 : k < s.size
      · have HS : Hid (256 * x + s[k].toNat = val (s.data.toList.take (k + 1))) := Lib.hid (by rw [val_take_succ k h0, ← HX.out, Nat.mul_comm])
        have hl : 256 * x + s[k].toNat < 9223372036854775808 := Nat.lt_of_le_of_lt (by rw [HS.out]; exact val_take_le (k + 1)) HV.out
        have hl2 : 256 * (x : Int) + (s[k].toNat : Int) < 9223372036854775808 := by omega
        clear hl
        go_wp2_with fail
        go_roundw
        case rel => exact ⟨k + 1, 256 * x + s[k].toNat, by omega, by go_num, by go_num, HS.out, trivial⟩
        case measure => simp [intOf]; omega
      · go_wp2_with fail
        go_ret2
        have e : x = nv s := by
          rw [HX.out, List.take_of_length_le (by rw [sdata_length]; omega)]
          rfl
        exact ⟨by rw [← e]; rfl, rfl⟩

set_option maxRecDepth 8000 in
theorem rInt_any (s : ByteArray) (w : World) (hs : s.size ≤ maxLen) :
    Calls Try.prog 15 #[.string s] w fun e w' => e = .returned (.tuple #[.int .i64 (intF s).1, .bool (intF s).2]) ∧ w = w' := by
  by_cases h : isN s = true ∧ s.size ≤ 8 ∧ nv s < 9223372036854775808
  · rw [show intF s = (((nv s : Nat) : Int), true) from if_pos h]
    exact rInt_yes s w h.1 h.2.1 h.2.2
  · rw [show intF s = (0, false) from if_neg h]
    refine rInt_no s w hs ?_
    by_cases hn : isN s = true
    · refine Or.inr ⟨hn, ?_⟩
      by_cases h8 : 8 < s.size
      · exact Or.inl h8
      · have hv : ¬ nv s < 9223372036854775808 := fun hv => h ⟨hn, by omega, hv⟩
        by_cases h9 : s.size < 8
        · exact absurd (size_small h9) hv
        · have h10 : s.size = 8 := by omega
          refine Or.inr ⟨h10, ?_⟩
          have i3 : 0 < s.size := by omega
          have : s[0]! = s[0]'i3 := by simp [i3]
          rw [this]
          exact (head_big h10).2 hv
    · exact Or.inl (by simpa using hn)

end Go.Proofs.Ytlkpphoioocjeaa
