/-
  The walks of the reference for naturals: Compare, Of, Int.
-/
import Derived.Test.YtmcejefeloljiaaPa5
namespace Go.Proofs.Ytmcejefeloljiaa
open Go.RowKit Nm

theorem cmp_cases (a b : ByteArray) (h : chkN [a, b] = 0) :
    (nv a < nv b ∧ cmpF a b = (-1, 0)) ∨ (¬ nv a < nv b ∧ nv b < nv a ∧ cmpF a b = (1, 0)) ∨ (¬ nv a < nv b ∧ ¬ nv b < nv a ∧ cmpF a b = (0, 0)) := by
  unfold cmpF
  rw [if_pos h]
  by_cases h1 : nv a < nv b
  · exact Or.inl ⟨h1, by rw [cmpN_lt h1]⟩
  · by_cases h2 : nv b < nv a
    · exact Or.inr (Or.inl ⟨h1, h2, by rw [cmpN_gt h2]⟩)
    · exact Or.inr (Or.inr ⟨h1, h2, by rw [cmpN_eq (by omega)]⟩)

set_option maxHeartbeats 1000000 in
theorem rCompare_any (a b : ByteArray) (w : World) (hsa : a.size ≤ maxLen) (hsb : b.size ≤ maxLen) :
    Calls Try.prog 65 #[.string a, .string b] w fun e w' => e = .returned (.tuple #[.int .i64 (cmpF a b).1, .int .i64 (cmpF a b).2]) ∧ ∃ k, w' = w.drewN k := by
  have h_ := fun w => both_any a b w
  by_cases h : chkN [a, b] = 0
  · obtain ⟨n1, n2, s1, s2⟩ := chk2_zero h
    rw [h] at h_
    have HB := Lib.hid h_
    have l1 := fun w => less_ref a b w n1 n2 hsa hsb
    have l2 := fun w => less_ref b a w n2 n1 hsb hsa
    obtain ⟨c1, e⟩ | ⟨c1, c2, e⟩ | ⟨c1, c2, e⟩ := cmp_cases a b h
    · rw [e]
      rw [decide_eq_true c1] at l1
      have L1 := Lib.hid l1
      clear l1 l2 h_ h e c1 n1 n2 s1 s2
      go_enter Try.func65, Try.ntmps65
      go_wp2_with fail
      refine (HB.out _).mono ?_
      rintro e w1 ⟨rfl, rfl⟩
      go_wp2_with fail
      refine (L1.out _).mono ?_
      rintro e w1 ⟨rfl, k, rfl⟩
      go_wp2_with fail
      go_ret2
      exact ⟨rfl, _, rfl⟩
    · rw [e]
      rw [decide_eq_false c1] at l1
      rw [decide_eq_true c2] at l2
      have L1 := Lib.hid l1
      have L2 := Lib.hid l2
      clear l1 l2 h_ h e c1 c2 n1 n2 s1 s2
      go_enter Try.func65, Try.ntmps65
      go_wp2_with fail
      refine (HB.out _).mono ?_
      rintro e w1 ⟨rfl, rfl⟩
      go_wp2_with fail
      refine (L1.out _).mono ?_
      rintro e w1 ⟨rfl, k, rfl⟩
      go_wp2_with fail
      refine (L2.out _).mono ?_
      rintro e w1 ⟨rfl, k', rfl⟩
      go_wp2_with fail
      go_ret2
      exact ⟨rfl, _, rfl⟩
    · rw [e]
      rw [decide_eq_false c1] at l1
      rw [decide_eq_false c2] at l2
      have L1 := Lib.hid l1
      have L2 := Lib.hid l2
      clear l1 l2 h_ h e c1 c2 n1 n2 s1 s2
      go_enter Try.func65, Try.ntmps65
      go_wp2_with fail
      refine (HB.out _).mono ?_
      rintro e w1 ⟨rfl, rfl⟩
      go_wp2_with fail
      refine (L1.out _).mono ?_
      rintro e w1 ⟨rfl, k, rfl⟩
      go_wp2_with fail
      refine (L2.out _).mono ?_
      rintro e w1 ⟨rfl, k', rfl⟩
      go_wp2_with fail
      go_ret2
      exact ⟨rfl, _, rfl⟩
  · have E : Hid (cmpF a b = (0, chkN [a, b])) := Lib.hid (if_neg h)
    have HB := Lib.hid h_
    have h2 : (chkN [a, b] != 0) = true := by simpa using h
    clear h_ h
    go_enter Try.func65, Try.ntmps65
    go_wp2_with fail
    refine (HB.out _).mono ?_
    rintro e w1 ⟨rfl, rfl⟩
    go_wp2_with fail
    go_ret2
    exact ⟨by rw [E.out]; rfl, 0, rfl⟩

theorem enc_len8 {n : Nat} (h : n < 9223372036854775808) : (enc n).length ≤ 8 := by
  rw [enc_length_le]
  exact Nat.lt_trans h (by decide)

theorem str1 {P : Program} (w : World) (x : Nat) (z : Int) (hz : z = (x : Int)) (_hx : x < 256) (src dst E : TypeId) (hs : P.underlying src = some (.slice E)) (he : P.underlying E = some (.int .u8)) (hd : P.underlying dst = some .string) :
    (convert src dst (.slice (some ⟨w.heap.size, 0, none⟩) 1 1)).run P (w.alloc (.cells #[.int .u8 z] E)) = .ok (.string ⟨#[UInt8.ofNat x]⟩) (w.alloc (.cells #[.int .u8 z] E)) := by
  subst hz
  rw [run_convert_bytes_arg (P := P) _ src E hs he w.heap.size 0 1 1 [((x : Nat) : Int)] (by simp) (fun i hi => by
    obtain rfl : i = 0 := by simp at hi; omega
    exact cell_one_new _ _ _ 0 _ rfl) dst hd]
  simp [strOfNums]

set_option maxHeartbeats 1000000 in
theorem rOf_any (n : Int) (w : World) (h1 : -9223372036854775808 ≤ n) (h2 : n ≤ 9223372036854775807) :
    Calls Try.prog 104 #[.int .i64 n] w fun e w' => e = .returned (.tuple #[.string (ofF n).1, .int .i64 (ofF n).2]) ∧ Below w.heap.size w w' := by
  by_cases hn : n < 0
  · have E : Hid (ofF n = (bE, 1)) := Lib.hid (if_pos hn)
    go_enter Try.func104, Try.ntmps104
    go_wp2_with fail
    go_ret2
    exact ⟨by rw [E.out]; rfl, Below.refl _ _⟩
  · obtain ⟨N, rfl⟩ := Int.eq_ofNat_of_zero_le (show 0 ≤ n by omega)
    have E : Hid (ofF ↑N = (encS N, 0)) := Lib.hid (by rw [ofF, if_neg (by omega)]; rfl)
    have h8 := enc_len8 (show N < 9223372036854775808 by omega)
    have H8 := Lib.hid h8
    clear h8
    go_enter Try.func104, Try.ntmps104
    go_wp2_with fail
    go_loopw [4, 0] (fun s n wr => ∃ (m : Nat) (t : ByteArray), m ≤ N ∧ n = .int .i64 (m : Int) ∧ s = .string t ∧ enc m ++ t.data.toList = enc N ∧ Below w.heap.size w wr) (fun _ n _ => (intOf n).toNat)
    case atStart => exact ⟨N, ⟨#[]⟩, Nat.le_refl _, rfl, rfl, by simp, Below.refl _ _⟩
    case round =>
      obtain ⟨m, t, hm, rfl, rfl, he, hbl⟩ := hrel
      have HE := Lib.hid he; clear he
      by_cases h0 : 0 < m
      · have hsz : t.size ≤ 8 := by
          have h := congrArg List.length HE.out
          rw [List.length_append, sdata_length] at h
          have := H8.out
          omega
        have hcv := fun d hd => str1 (P := Try.prog) wr (m % 256) ((m : Int) % 256) (by omega) (by omega) 149 d 5 Try.underlying149 Try.underlying5 hd
        go_wp2_with fail
        go_roundw
        case rel =>
          refine ⟨m / 256, _, by omega, by rw [show ((m / 256 : Nat) : Int) = (m : Int) / 256 by omega], rfl, ?_, hbl.alloc hbl.size _⟩
          have h := HE.out
          rw [enc_pos m h0, List.append_assoc] at h
          rw [← h]
          simp
        case measure => simp [intOf]; omega
      · obtain rfl : m = 0 := by omega
        have e : encS N = t := by
          have h := HE.out
          rw [enc_zero, List.nil_append] at h
          show (⟨(enc N).toArray⟩ : ByteArray) = t
          rw [← h]
        go_wp2_with fail
        go_ret2
        exact ⟨by rw [E.out, e]; rfl, hbl⟩

theorem head_big {s : ByteArray} (h8 : s.size = 8) : (128 ≤ s[0].toNat ↔ ¬ nv s < 9223372036854775808) := by
  have e : s.data.toList = s[0] :: s.data.toList.drop 1 := by
    have := sdata_length s
    conv => lhs; rw [← List.take_append_drop 1 s.data.toList]
    rw [List.take_succ_eq_append_getElem (by omega)]
    rfl
  have l : (s.data.toList.drop 1).length = 7 := by
    rw [List.length_drop, sdata_length]; omega
  have hv : nv s = s[0].toNat * 256 ^ 7 + val (s.data.toList.drop 1) := by
    show val s.data.toList = _
    rw [e, val_cons, l]
    simp
  have h1 := val_lt (s.data.toList.drop 1)
  rw [l] at h1
  have e7 : 256 ^ 7 = 72057594037927936 := by decide
  rw [e7] at h1 hv
  omega
theorem size_small {s : ByteArray} (h : s.size < 8) : nv s < 9223372036854775808 := by
  have h1 := val_lt s.data.toList
  rw [sdata_length] at h1
  have : 256 ^ s.size ≤ 256 ^ 7 := Nat.pow_le_pow_right (by omega) (by omega)
  have e7 : 256 ^ 7 = 72057594037927936 := by decide
  show val s.data.toList < _
  omega
theorem val_take_succ {s : ByteArray} (k : Nat) (h : k < s.size) : val (s.data.toList.take (k + 1)) = val (s.data.toList.take k) * 256 + s[k].toNat := by
  rw [List.take_succ_eq_append_getElem (by rw [sdata_length]; exact h), val_snoc]
  rfl
theorem val_take_le {s : ByteArray} (k : Nat) : val (s.data.toList.take k) ≤ nv s := by
  show _ ≤ val s.data.toList
  conv => rhs; rw [← List.take_append_drop k s.data.toList, val_append]
  have : 1 ≤ 256 ^ (s.data.toList.drop k).length := Nat.pow_pos (by omega)
  have := Nat.mul_le_mul_left (val (s.data.toList.take k)) this
  omega

set_option maxRecDepth 8000 in
set_option maxHeartbeats 1000000 in
theorem rInt_no (s : ByteArray) (w : World) (hs : s.size ≤ maxLen) (h : isN s = false ∨ (isN s = true ∧ (8 < s.size ∨ (s.size = 8 ∧ 128 ≤ s[0]!.toNat)))) :
    Calls Try.prog 117 #[.string s] w fun e w' => e = .returned (.tuple #[.int .i64 0, .bool false]) ∧ w = w' := by
  have h_ := fun w => rNatural_any s w
  unfold maxLen at hs
  rcases h with h | ⟨h, h1 | ⟨h1, h2⟩⟩
  · rw [h] at h_
    have HN := Lib.hid h_
    clear h_ h
    go_enter Try.func117, Try.ntmps117
    go_wp2_with fail
    refine (HN.out _).mono ?_
    rintro e w1 ⟨rfl, rfl⟩
    go_wp2_with fail
    go_ret2
    exact ⟨rfl, rfl⟩
  · rw [h] at h_
    have HN := Lib.hid h_
    clear h_ h
    go_enter Try.func117, Try.ntmps117
    go_wp2_with fail
    refine (HN.out _).mono ?_
    rintro e w1 ⟨rfl, rfl⟩
    go_wp2_with fail
    go_ret2
    exact ⟨rfl, rfl⟩
  · rw [h] at h_
    have HN := Lib.hid h_
    clear h_ h
    have i1 : s.size ≤ 8 := by omega
    have i2 : 8 ≤ s.size := by omega
    have i3 : 0 < s.size := by omega
    have h2' : 128 ≤ (s[0]'i3).toNat := by
      have : s[0]! = s[0]'i3 := by simp [i3]
      rw [← this]; exact h2
    clear h2 h1
    go_enter Try.func117, Try.ntmps117
    go_wp2_with fail
    refine (HN.out _).mono ?_
    rintro e w1 ⟨rfl, rfl⟩
    go_wp2_with fail
    go_ret2
    exact ⟨rfl, rfl⟩

set_option maxRecDepth 8000 in
set_option maxHeartbeats 1000000 in
theorem rInt_yes (s : ByteArray) (w : World) (h : isN s = true) (h8 : s.size ≤ 8) (hv : nv s < 9223372036854775808) :
    Calls Try.prog 117 #[.string s] w fun e w' => e = .returned (.tuple #[.int .i64 ((nv s : Nat) : Int), .bool true]) ∧ w = w' := by
  have h_ := fun w => rNatural_any s w
  rw [h] at h_
  have HN := Lib.hid h_
  by_cases h1 : s.size < 8
  · clear h8
    have HV := Lib.hid hv
    clear h_ h hv
    go_enter Try.func117, Try.ntmps117
    go_wp2_with fail
    refine (HN.out _).mono ?_
    rintro e w1 ⟨rfl, rfl⟩
    go_wp2_with fail
    go_loopw [4, 5] (fun n i wr => ∃ k x : Nat, k ≤ s.size ∧ n = .int .i64 (x : Int) ∧ i = .int .i64 (k : Int) ∧ x = val (s.data.toList.take k) ∧ w = wr) (fun _ i _ => s.size - (intOf i).toNat)
    case atStart => exact ⟨0, 0, Nat.zero_le _, rfl, rfl, by simp [val_nil], rfl⟩
    case round =>
      obtain ⟨k, x, hk, rfl, rfl, hx, rfl⟩ := hrel
      have HX := Lib.hid hx
      clear hx
      by_cases h0 : k < s.size
      · have HS : Hid (256 * x + s[k].toNat = val (s.data.toList.take (k + 1))) := Lib.hid (by rw [val_take_succ k h0, ← HX.out, Nat.mul_comm])
        have hl : 256 * x + s[k].toNat < 9223372036854775808 := Nat.lt_of_le_of_lt (by rw [HS.out]; exact val_take_le (k + 1)) HV.out
        have hl2 : 256 * (x : Int) + (s[k].toNat : Int) < 9223372036854775808 := by omega
        clear hl
        go_wp2_with fail
        go_roundw
        case rel => exact ⟨k + 1, 256 * x + s[k].toNat, by omega, by go_num, by go_num, HS.out, trivial⟩
        case measure => simp [intOf]; omega
      · go_wp2_with fail
        go_ret2
        have e : x = nv s := by
          rw [HX.out, List.take_of_length_le (by rw [sdata_length]; omega)]
          rfl
        exact ⟨by rw [← e]; rfl, rfl⟩
  · have i2 : 8 ≤ s.size := by omega
    have i3 : 0 < s.size := by omega
    have h2 : (s[0]'i3).toNat < 128 := by
      have := head_big (s := s) (by omega)
      omega
    clear h1
    have HV := Lib.hid hv
    clear h_ h hv
    go_enter Try.func117, Try.ntmps117
    go_wp2_with fail
    refine (HN.out _).mono ?_
    rintro e w1 ⟨rfl, rfl⟩
    go_wp2_with fail
    generalize (s[0]'i3).toNat = b0 at *
    rename_i q1 q2 q3 q4 q5
    clear q2 h8
    go_loopw [4, 5] (fun n i wr => ∃ k x : Nat, k ≤ s.size ∧ n = .int .i64 (x : Int) ∧ i = .int .i64 (k : Int) ∧ x = val (s.data.toList.take k) ∧ w = wr) (fun _ i _ => s.size - (intOf i).toNat)
    case atStart => exact ⟨0, 0, Nat.zero_le _, rfl, rfl, by simp [val_nil], rfl⟩
    case round =>
      obtain ⟨k, x, hk, rfl, rfl, hx, rfl⟩ := hrel
      have HX := Lib.hid hx
      clear hx
      by_cases h0 : k < s.size
      · have HS : Hid (256 * x + s[k].toNat = val (s.data.toList.take (k + 1))) := Lib.hid (by rw [val_take_succ k h0, ← HX.out, Nat.mul_comm])
        have hl : 256 * x + s[k].toNat < 9223372036854775808 := Nat.lt_of_le_of_lt (by rw [HS.out]; exact val_take_le (k + 1)) HV.out
        have hl2 : 256 * (x : Int) + (s[k].toNat : Int) < 9223372036854775808 := by omega
        clear hl
        go_wp2_with fail
        go_roundw
        case rel => exact ⟨k + 1, 256 * x + s[k].toNat, by omega, by go_num, by go_num, HS.out, trivial⟩
        case measure => simp [intOf]; omega
      · go_wp2_with fail
        go_ret2
        have e : x = nv s := by
          rw [HX.out, List.take_of_length_le (by rw [sdata_length]; omega)]
          rfl
        exact ⟨by rw [← e]; rfl, rfl⟩

set_option maxRecDepth 8000 in
theorem rInt_any (s : ByteArray) (w : World) (hs : s.size ≤ maxLen) :
    Calls Try.prog 117 #[.string s] w fun e w' => e = .returned (.tuple #[.int .i64 (intF s).1, .bool (intF s).2]) ∧ w = w' := by
  by_cases h : isN s = true ∧ s.size ≤ 8 ∧ nv s < 9223372036854775808
  · rw [show intF s = (((nv s : Nat) : Int), true) from if_pos h]
    exact rInt_yes s w h.1 h.2.1 h.2.2
  · rw [show intF s = (0, false) from if_neg h]
    refine rInt_no s w hs ?_
    by_cases hn : isN s = true
    · refine Or.inr ⟨hn, ?_⟩
      by_cases h8 : 8 < s.size
      · exact Or.inl h8
      · have hv : ¬ nv s < 9223372036854775808 := fun hv => h ⟨hn, by omega, hv⟩
        by_cases h9 : s.size < 8
        · exact absurd (size_small h9) hv
        · have h10 : s.size = 8 := by omega
          refine Or.inr ⟨h10, ?_⟩
          have i3 : 0 < s.size := by omega
          have : s[0]! = s[0]'i3 := by simp [i3]
          rw [this]
          exact (head_big h10).2 hv
    · exact Or.inl (by simpa using hn)

end Go.Proofs.Ytmcejefeloljiaa

/-
  The walks of the reference for naturals: digits, at, number, carry.
-/
namespace Go.Proofs.Ytmcejefeloljiaa
open Go.RowKit Nm

theorem info_i64 : (Try.prog.info? 3).map (fun i => (i.zero, i.size, i.bytes)) = some (some (.int .i64 0), 1, 8) := by kernel_rfl
abbrev OwnZ (w : World) (B : Nat) (v : Value) (xs : List Int) : Prop := OwnI w B 3 .i64 v xs

theorem OwnZ.lit0 (w : World) : OwnZ (w.alloc (.cells #[] 3)) w.heap.size (.slice (some ⟨w.heap.size, 0, none⟩) 0 0) [] := by
  have h := World.ownsRow_lit (base := w.heap.size) (e := 3) (size := 1) w #[] 0 (Nat.le_refl _) (by simp [maxLen]) rfl
  exact h

theorem wrapB (b : UInt8) : wrap64 ((b.toNat : Nat) : Int) = ((b.toNat : Nat) : Int) := by
  have := b.toNat_lt
  unfold wrap64
  omega

set_option maxHeartbeats 1000000 in
theorem digits_any (s : ByteArray) (w : World) (hs : s.size ≤ 4096) :
    Calls Try.prog 112 #[.string s] w fun e w' => ∃ v, e = .returned v ∧ OwnZ w' w.heap.size v (dgi s.data.toList) ∧ Below w.heap.size w w' := by
  go_enter Try.func112, Try.ntmps112
  go_wp2_with fail
  go_loopw [3, 4] (fun l i wr => ∃ k : Nat, k ≤ s.size ∧ i = .int .i64 ((k : Int) - 1) ∧ OwnZ wr w.heap.size l (dgi (s.data.toList.drop k)) ∧ Below w.heap.size w wr) (fun _ i _ => (intOf i + 1).toNat)
  case atStart =>
    refine ⟨s.size, Nat.le_refl _, rfl, ?_, (Below.refl _ _).alloc (Nat.le_refl _) _⟩
    rw [List.drop_of_length_le (by rw [sdata_length]; omega)]
    exact OwnZ.lit0 w
  case round =>
    obtain ⟨k, hk, rfl, hown, hbl⟩ := hrel
    by_cases h0 : 0 < k
    · have hl := length_dgi (s.data.toList.drop k)
      rw [List.length_drop, sdata_length] at hl
      have hd := dgi_drop s.data.toList (k - 1) (by rw [sdata_length]; omega)
      rw [show k - 1 + 1 = k by omega] at hd
      generalize dgi (s.data.toList.drop k) = xs at *
      have HD := Lib.hid hd
      have hl2 : xs.length + 1 ≤ 4294967296 := by omega
      clear hd hl
      obtain ⟨ol, cl, hlv, hcl, hclm⟩ := hown.shp
      subst hlv
      go_wp2_with (at_builtin; refine append1I wr rfl _ _ 164 rfl w.heap.size 3 .i64 8 info_i64 Try.underlying164 _ xs hown rfl _ _ _ (wrapB _) rfl hl2 (by omega) hbl.size ?_)
      intro l' w4 hown' hgrow
      have hbl2 := grown_belowI hbl hown hgrow hbl.size
      clear hgrow hown hbl
      go_wp2_with fail
      go_roundw
      case rel => exact ⟨k - 1, by omega, by rw [show ((k - 1 : Nat) : Int) = (k : Int) - 1 by omega], by rw [HD.out]; exact hown', hbl2⟩
      case measure => simp [intOf]; omega
    · obtain rfl : k = 0 := by omega
      go_wp2_with fail
      go_ret
      exact ⟨_, rfl, hown, hbl⟩

set_option maxHeartbeats 400000 in
theorem at_any (B : Nat) (v : Value) (xs : List Int) (i : Nat) (w : World) (hown : OwnZ w B v xs) (hi : i ≤ 1048576) :
    Calls Try.prog 113 #[v, .int .i64 (i : Int)] w fun e w' => e = .returned (.int .i64 (xs.getD i 0)) ∧ w = w' := by
  obtain ⟨oa, cap, rfl, hc1, hc2⟩ := hown.shp
  by_cases h : i < xs.length
  · obtain ⟨g, rfl, hg1, hg2⟩ := OwnI.at hown (by omega)
    have hc := hown.cell i h
    have e : xs.getD i 0 = xs[i] := by simp [List.getD, h]
    rw [e]
    generalize xs[i] = x at *
    clear e hown
    go_enter Try.func113, Try.ntmps113
    go_wp2_with fail
    go_ret
    exact ⟨rfl, rfl⟩
  · have e : xs.getD i 0 = 0 := by simp [List.getD, List.getElem?_eq_none (by omega : xs.length ≤ i)]
    rw [e]
    clear e hown
    go_enter Try.func113, Try.ntmps113
    go_wp2_with fail
    go_ret
    exact ⟨rfl, rfl⟩

theorem num_step (xs : List Int) (hr : ∀ x ∈ xs, 0 ≤ x ∧ x < 256) (j : Nat) (h0 : 0 < j) (hj : j ≤ xs.length) (x : Int) (hx : xs[j - 1] = x) (hne : x ≠ 0 ∨ 0 < vle (xs.drop j)) :
    enc (vle (xs.drop (j - 1))).toNat = enc (vle (xs.drop j)).toNat ++ [UInt8.ofNat x.toNat] ∧ 0 < vle (xs.drop (j - 1)) := by
  have h1 := vle_drop xs (j - 1) (by omega)
  rw [show j - 1 + 1 = j by omega, hx] at h1
  have h2 := vle_nonneg (xs.drop j) fun y hy => (hr y (List.mem_of_mem_drop hy)).1
  have h3 := hr _ (List.getElem_mem (show j - 1 < xs.length by omega))
  rw [hx] at h3
  rw [h1]
  have e := enc_step (vle (xs.drop j)).toNat x.toNat (by omega)
  rw [if_neg (by omega)] at e
  rw [← e]
  refine ⟨by congr 1; omega, by omega⟩
theorem enc_len_vle (xs : List Int) (hr : ∀ x ∈ xs, 0 ≤ x ∧ x < 256) : (enc (vle xs).toNat).length ≤ xs.length := by
  rw [enc_length_le]
  have h1 := vle_lt xs fun x hx => (hr x hx).2
  have h2 := vle_nonneg xs fun x hx => (hr x hx).1
  have h3 : (256 : Int) ^ xs.length = ((256 ^ xs.length : Nat) : Int) := by rw [Int.natCast_pow]; rfl
  rw [h3] at h1
  omega

theorem OwnB.lit0 (w : World) : OwnB (w.alloc (.cells #[] 5)) w.heap.size (.slice (some ⟨w.heap.size, 0, none⟩) 0 0) [] := by
  have h := World.ownsRow_lit (base := w.heap.size) (e := 5) (size := 1) w #[] 0 (Nat.le_refl _) (by simp [maxLen]) rfl
  exact h
theorem encS0_eq' : encS 0 = ⟨#[]⟩ := by rw [← bE_encS]; rfl

set_option maxHeartbeats 2000000 in
theorem number_any (B : Nat) (v : Value) (xs : List Int) (w : World) (hown : OwnZ w B v xs) (hr : ∀ x ∈ xs, 0 ≤ x ∧ x < 256) (hl : xs.length ≤ 65536) :
    Calls Try.prog 115 #[v] w fun e w' => e = .returned (.string (encS (vle xs).toNat)) ∧ Below w.heap.size w w' := by
  obtain ⟨oa, cap, rfl, hc1, hc2⟩ := hown.shp
  have HO := Lib.hid hown
  have HR := Lib.hid hr
  clear hown hr
  go_enter Try.func115, Try.ntmps115
  go_wp2_with fail
  go_loopw [3] (fun n wr => ∃ k : Nat, k ≤ xs.length ∧ n = .int .i64 (k : Int) ∧ vle (xs.drop k) = 0 ∧ w = wr) (fun n _ => (intOf n).toNat)
  case atStart => exact ⟨xs.length, Nat.le_refl _, rfl, by rw [List.drop_length]; rfl, rfl⟩
  case round =>
    obtain ⟨k, hk, rfl, hz, rfl⟩ := hrel
    have HZ := Lib.hid hz
    clear hz
    by_cases h0 : 0 < k
    · obtain ⟨g, rfl, hg1, hg2⟩ := OwnI.at HO.out (by omega)
      have hc := OwnI.cell HO.out (k - 1) (by omega)
      have hxr := HR.out _ (List.getElem_mem (show k - 1 < xs.length by omega))
      generalize hx : xs[k - 1] = x at hc hxr
      have HX := Lib.hid hx
      clear hx
      obtain ⟨x1, x2⟩ := hxr
      by_cases hx0 : x ≤ 0
      · obtain rfl : x = 0 := by omega
        go_wp2_with fail
        go_roundw
        case rel =>
          refine ⟨k - 1, by omega, by rw [show ((k - 1 : Nat) : Int) = (k : Int) - 1 by omega], ?_, trivial⟩
          have h1 := vle_drop xs (k - 1) (by omega)
          rw [show k - 1 + 1 = k by omega, HX.out, HZ.out] at h1
          exact h1
        case measure => simp [intOf]; omega
      · have hx1 : 0 < x := by omega
        have hx3 : (x == 0) = false := by
          rw [beq_eq_false_iff_ne]
          omega
        clear hx0
        go_wp2_with fail
        go_loopw [4, 5] (fun b i wr => ∃ j : Nat, j ≤ k ∧ i = .int .i64 ((j : Int) - 1) ∧ (j = k ∨ 0 < vle (xs.drop j)) ∧ OwnB wr w.heap.size b (enc (vle (xs.drop j)).toNat) ∧ Below w.heap.size w wr) (fun _ i _ => (intOf i + 1).toNat)
        case atStart =>
          refine ⟨k, Nat.le_refl _, rfl, Or.inl rfl, ?_, (Below.refl _ _).alloc (Nat.le_refl _) _⟩
          rw [HZ.out]
          exact OwnB.lit0 w
        case round =>
          obtain ⟨j, hj, rfl, hor, hb, hbl⟩ := hrel
          by_cases hj0 : 0 < j
          · have hjl : j - 1 < xs.length := by omega
            have hcj := OwnI.cell (OwnI.kept HO.out (row := none) ⟨hbl.os, hbl.tape, hbl.output, hbl.size, fun i hi _ => hbl.block i hi⟩ (by simp [Value.ownBlock])) (j - 1) hjl
            have hyr := HR.out _ (List.getElem_mem hjl)
            have hstep := fun (y : Int) (hy : xs[j - 1] = y) (hy0 : 0 ≤ y) => num_step xs HR.out j hj0 (by omega) y hy (by
              rcases hor with rfl | h
              · left
                have := HX.out
                rw [hy] at this
                omega
              · exact Or.inr h)
            have hlen := Nat.le_trans (enc_len_vle (xs.drop j) fun x hx => HR.out x (List.mem_of_mem_drop hx)) (by rw [List.length_drop]; exact Nat.sub_le _ _)
            generalize hy : xs[j - 1] = y at hcj hyr
            have hst := hstep y hy (by omega)
            have hy2 : ((y.toNat : Nat) : Int) = y := by omega
            obtain ⟨y1, y2⟩ := hyr
            have hyw : ((UInt8.ofNat y.toNat).toNat : Int) = y := by
              have : (UInt8.ofNat y.toNat).toNat = y.toNat := by simp; omega
              omega
            generalize enc (vle (xs.drop j)).toNat = bs at *
            have HST := Lib.hid hst
            have HYW := Lib.hid hyw
            have hl2 : (bs.map UInt8.toNat).length + 1 ≤ 4294967296 := by rw [List.length_map]; omega
            clear hst hyw hy2 hstep hy hor hlen
            obtain ⟨ob, cb, hv, hcb, hcbm⟩ := hb.shp
            rw [List.length_map] at hv hcb
            subst hv
            go_wp2_with (at_builtin; refine append1 wr rfl _ _ 149 rfl w.heap.size 5 .u8 1 info_u8 Try.underlying149 _ (bs.map UInt8.toNat) hb rfl _ _ (UInt8.ofNat y.toNat).toNat HYW.out.symm rfl hl2 (by omega) hbl.size ?_)
            intro v' w1 hown' hgrow
            have hbl1 := grown_below hbl hb hgrow hbl.size
            clear hb hgrow hbl
            go_wp2_with fail
            go_roundw
            case rel => exact ⟨j - 1, by omega, by rw [show ((j - 1 : Nat) : Int) = (j : Int) - 1 by omega], Or.inr HST.out.2, by rw [HST.out.1]; unfold OwnB; simpa using hown', hbl1⟩
            case measure => simp [intOf]; omega
          · obtain rfl : j = 0 := by omega
            rw [List.drop_zero] at hb
            have hcv := fun d hd => OwnN.str (P := Try.prog) hb 149 d Try.underlying149 Try.underlying5 hd
            go_wp2_with fail
            go_ret
            exact ⟨rfl, hbl⟩
    · obtain rfl : k = 0 := by omega
      have e : vle xs = 0 := by have := HZ.out; rw [List.drop_zero] at this; exact this
      have HE := Lib.hid e
      have hb := OwnB.lit0 w
      have hcv := fun d hd => OwnN.str (P := Try.prog) (bs := []) hb 149 d Try.underlying149 Try.underlying5 hd
      clear e
      go_wp2_with fail
      refine wp_loop_rounds 1 ?_
      rw [rounds_succ]
      go_wp2_with fail
      go_ret
      exact ⟨by rw [HE.out, show encS (Int.toNat 0) = ⟨#[]⟩ from encS0_eq']; rfl, (Below.refl _ _).alloc (Nat.le_refl _) _⟩

end Go.Proofs.Ytmcejefeloljiaa

/-
  The walks of the reference for naturals: carry.
-/
namespace Go.Proofs.Ytmcejefeloljiaa
open Go.RowKit Nm

set_option maxHeartbeats 2000000 in
theorem carry_any (B : Nat) (v : Value) (xs : List Int) (w : World) (hown : OwnZ w B v xs) (he : ∀ x ∈ xs, -8589934592 ≤ x ∧ x ≤ 8589934592) (hv : 0 ≤ vle xs) (hl : xs.length ≤ 65536) :
    Calls Try.prog 116 #[v] w fun e w' => ∃ (v' : Value) (out : List Int), e = .returned v' ∧ OwnZ w' w.heap.size v' out ∧ vle out = vle xs ∧ (∀ x ∈ out, 0 ≤ x ∧ x < 256) ∧ out.length ≤ xs.length + 6 ∧ Below w.heap.size w w' := by
  obtain ⟨oa, cap, rfl, hc1, hc2⟩ := hown.shp
  have HO := Lib.hid hown
  have HE := Lib.hid he
  have HV := Lib.hid hv
  clear hown he hv
  go_enter Try.func116, Try.ntmps116
  go_wp2_with fail
  go_loopw [3, 4, 5] (fun out over i wr => ∃ (k : Nat) (ov : Int) (o : List Int), i = .int .i64 (k : Int) ∧ over = .int .i64 ov ∧ k ≤ xs.length + 6 ∧ carryI xs o ov k ∧ OwnZ wr w.heap.size out o ∧ Below w.heap.size w wr) (fun _ _ i _ => xs.length + 7 - (intOf i).toNat)
  case atStart => exact ⟨0, 0, [], rfl, rfl, by omega, carryI.zero xs, OwnZ.lit0 w, (Below.refl _ _).alloc (Nat.le_refl _) _⟩
  case round =>
    obtain ⟨k, ov, o, rfl, rfl, hk, hC, hown, hbl⟩ := hrel
    have hol := hC.len
    obtain ⟨ol, cl, hlv, hcl, hclm⟩ := hown.shp
    subst hlv
    have hol2 : o.length ≤ xs.length + 6 := by omega
    have hb0 := hC.bound
    have HC := Lib.hid hC
    clear hC hol
    by_cases h0 : k < xs.length
    · obtain ⟨g, rfl, hg1, hg2⟩ := OwnI.at HO.out (by omega)
      have hc := OwnI.cell (OwnI.kept HO.out (row := none) ⟨hbl.os, hbl.tape, hbl.output, hbl.size, fun i hi _ => hbl.block i hi⟩ (by simp [Value.ownBlock])) k h0
      have hxr := HE.out _ (List.getElem_mem h0)
      generalize hx : xs[k] = x at hc hxr
      have HX := Lib.hid hx
      clear hx
      obtain ⟨x1, x2⟩ := hxr
      obtain ⟨b1, b2⟩ := hb0
      go_wp2_with fail
      go_loopw [4, 6] (fun over d wq => ∃ dd oo : Int, d = .int .i64 dd ∧ over = .int .i64 oo ∧ oo ≤ 0 ∧ -268435456 ≤ oo ∧ (ov + x) = dd + 256 * oo ∧ (oo = 0 ∨ dd ≤ 255) ∧ wr = wq) (fun _ d _ => (- intOf d).toNat)
      case atStart => exact ⟨(ov + x), 0, rfl, rfl, by omega, by omega, by omega, Or.inl rfl, rfl⟩
      case round =>
        obtain ⟨dd, oo, rfl, rfl, ho1, ho2, hd, hor, rfl⟩ := hrel
        have HDD := Lib.hid hd
        have hd1 : -25769803776 ≤ dd + 256 * oo := by omega
        have hd2 : dd + 256 * oo ≤ 34359738368 := by omega
        clear hd
        by_cases hdn : dd < 0
        · have ho3 : -268435456 < oo := by omega
          go_wp2_with fail
          go_roundw
          case rel => exact ⟨dd + 256, oo - 1, rfl, rfl, by omega, by omega, by have := HDD.out; omega, Or.inr (by omega), trivial⟩
          case measure => simp [intOf]; omega
        · have hd0 : 0 ≤ dd := by omega
          have HS := Lib.hid (show ∀ w1 l', OwnZ w1 w.heap.size l' (o ++ [dd % 256]) → OwnZ w1 w.heap.size l' (o ++ [(ov + x) % 256]) from fun w1 l' h => by rw [show (ov + x) % 256 = dd % 256 by have := HDD.out; omega]; exact h)
          have HO2 := Lib.hid (show oo + dd / 256 = (ov + x) / 256 by have := HDD.out; omega)
          have hd3 : dd ≤ 34359738368 := by omega
          clear hdn hor
          go_wp2_with (at_builtin; refine append1I wr rfl _ _ 164 rfl w.heap.size 3 .i64 8 info_i64 Try.underlying164 _ o hown rfl _ _ (dd % 256) rfl rfl (by omega) (by omega) hbl.size ?_)
          intro l' w4 hown' hgrow
          have hbl2 := grown_belowI hbl hown hgrow hbl.size
          have hown2 := HS.out _ _ hown'
          clear hgrow hown hbl hown'
          go_wp2_with fail
          go_roundw
          case rel => exact ⟨k + 1, (ov + x) / 256, _, by go_num, by rw [← HO2.out], by omega, carryI.step HC.out h0 (by rw [HX.out]) (by rw [HX.out]; omega), hown2, hbl2⟩
          case measure => simp [intOf]; omega
    · by_cases hp : 0 < ov
      · obtain ⟨hm, hk5⟩ := HC.out.more (by omega) hp
        have HM := Lib.hid hm
        clear hm
        obtain ⟨b1, b2⟩ := hb0
        go_wp2_with fail
        go_loopw [4, 6] (fun over d wq => ∃ dd oo : Int, d = .int .i64 dd ∧ over = .int .i64 oo ∧ oo ≤ 0 ∧ -268435456 ≤ oo ∧ ov = dd + 256 * oo ∧ (oo = 0 ∨ dd ≤ 255) ∧ wr = wq) (fun _ d _ => (- intOf d).toNat)
        case atStart => exact ⟨ov, 0, rfl, rfl, by omega, by omega, by omega, Or.inl rfl, rfl⟩
        case round =>
          obtain ⟨dd, oo, rfl, rfl, ho1, ho2, hd, hor, rfl⟩ := hrel
          have HDD := Lib.hid hd
          have hd1 : -25769803776 ≤ dd + 256 * oo := by omega
          have hd2 : dd + 256 * oo ≤ 34359738368 := by omega
          clear hd
          by_cases hdn : dd < 0
          · have ho3 : -268435456 < oo := by omega
            go_wp2_with fail
            go_roundw
            case rel => exact ⟨dd + 256, oo - 1, rfl, rfl, by omega, by omega, by have := HDD.out; omega, Or.inr (by omega), trivial⟩
            case measure => simp [intOf]; omega
          · have hd0 : 0 ≤ dd := by omega
            have HS := Lib.hid (show ∀ w1 l', OwnZ w1 w.heap.size l' (o ++ [dd % 256]) → OwnZ w1 w.heap.size l' (o ++ [ov % 256]) from fun w1 l' h => by rw [show ov % 256 = dd % 256 by have := HDD.out; omega]; exact h)
            have HO2 := Lib.hid (show oo + dd / 256 = ov / 256 by have := HDD.out; omega)
            have hd3 : dd ≤ 34359738368 := by omega
            clear hdn hor
            go_wp2_with (at_builtin; refine append1I wr rfl _ _ 164 rfl w.heap.size 3 .i64 8 info_i64 Try.underlying164 _ o hown rfl _ _ (dd % 256) rfl rfl (by omega) (by omega) hbl.size ?_)
            intro l' w4 hown' hgrow
            have hbl2 := grown_belowI hbl hown hgrow hbl.size
            have hown2 := HS.out _ _ hown'
            clear hgrow hown hbl hown'
            go_wp2_with fail
            go_roundw
            case rel => exact ⟨k + 1, ov / 256, _, by go_num, by rw [← HO2.out], by omega, HM.out, hown2, hbl2⟩
            case measure => simp [intOf]; omega
      · have HD := Lib.hid (HC.out.done (by omega) (by omega) HV.out)
        have HR := Lib.hid HC.out.rng
        go_wp2_with fail
        go_ret
        exact ⟨_, rfl, o, hown, HD.out, HR.out, by omega, hbl⟩

end Go.Proofs.Ytmcejefeloljiaa

/-
  The walks of the reference for naturals: Add, minus, Sub.
-/
namespace Go.Proofs.Ytmcejefeloljiaa
open Go.RowKit Nm

/-- between two rounds of the loops that add or subtract digit by digit -/
structure linI (s : Int) (X Y o : List Int) (k : Nat) : Prop where
  len : o.length = k
  sum : vle o = vle (X.take k) + s * vle (Y.take k)
  rng : ∀ x ∈ o, -510 ≤ x ∧ x ≤ 510
theorem linI.zero (s : Int) (X Y : List Int) : linI s X Y [] 0 := ⟨rfl, by simp [vle], by simp⟩
theorem linI.step {s : Int} {X Y o : List Int} {k : Nat} (h : linI s X Y o k) (z : Int) (hz : z = X.getD k 0 + s * Y.getD k 0) (hr : -510 ≤ z ∧ z ≤ 510) : linI s X Y (o ++ [z]) (k + 1) := by
  refine ⟨by simp [h.len], ?_, ?_⟩
  · rw [vle_snoc, h.len, h.sum, vle_take X, vle_take Y, hz, Int.mul_add, Int.mul_add, ← Int.mul_assoc, ← Int.mul_assoc, Int.mul_comm s (256 ^ k)]
    omega
  · intro x hx
    rw [List.mem_append] at hx
    rcases hx with hx | hx
    · exact h.rng x hx
    · simp at hx; subst hx; exact hr
theorem linI.done {s : Int} {X Y o : List Int} {k : Nat} (h : linI s X Y o k) (hX : X.length ≤ k) (hY : Y.length ≤ k) : vle o = vle X + s * vle Y := by
  rw [h.sum, List.take_of_length_le hX, List.take_of_length_le hY]
theorem vle_dgi_nv (a : ByteArray) : vle (dgi a.data.toList) = ((nv a : Nat) : Int) := vle_dgi _
theorem dgi_len (a : ByteArray) : (dgi a.data.toList).length = a.size := by rw [length_dgi, sdata_length]

set_option maxHeartbeats 1000000 in
/-- number(carry(l)) -/
theorem numcarry (B : Nat) (v : Value) (xs : List Int) (w : World) (N : Nat) (hown : OwnZ w B v xs) (he : ∀ x ∈ xs, -8589934592 ≤ x ∧ x ≤ 8589934592) (hv : vle xs = (N : Int)) (hl : xs.length ≤ 65530) :
    Calls Try.prog 116 #[v] w fun e w' => ∃ v', e = .returned v' ∧ Below w.heap.size w w' ∧
      Calls Try.prog 115 #[v'] w' fun e w'' => e = .returned (.string (encS N)) ∧ Below w.heap.size w w'' := by
  refine (carry_any B v xs w hown he (by omega) (by omega)).mono ?_
  rintro e w' ⟨v', out, rfl, ho, hs, hr, hlen, hb⟩
  refine ⟨v', rfl, hb, ?_⟩
  refine (number_any _ v' out w' ho hr (by omega)).mono ?_
  rintro e w'' ⟨rfl, hb2⟩
  refine ⟨?_, hb.trans (hb2.mono hb.size)⟩
  rw [hs, hv]
  rfl

set_option maxHeartbeats 4000000 in
theorem rAdd_any (a b : ByteArray) (w : World) :
    Calls Try.prog 56 #[.string a, .string b] w fun e w' => e = .returned (.tuple #[.string (addF a b).1, .int .i64 (addF a b).2]) ∧ Below w.heap.size w w' := by
  have h_ := fun w => both_any a b w
  by_cases h : chkN [a, b] = 0
  · have E : Hid (addF a b = shortN (nv a + nv b)) := Lib.hid (if_pos h)
    obtain ⟨_, _, s1, s2⟩ := chk2_zero h
    rw [h] at h_
    have HB := Lib.hid h_
    have lx := dgi_len a
    have ly := dgi_len b
    have vx := vle_dgi_nv a
    have vy := vle_dgi_nv b
    have da := fun w => digits_any a w (by omega)
    have db := fun w => digits_any b w (by omega)
    have rx := dgi_range a.data.toList
    have ry := dgi_range b.data.toList
    generalize dgi a.data.toList = X at *
    generalize dgi b.data.toList = Y at *
    have DA := Lib.hid da
    have DB := Lib.hid db
    have VX := Lib.hid vx
    have VY := Lib.hid vy
    have RX := Lib.hid rx
    have RY := Lib.hid ry
    rw [← lx] at s1
    rw [← ly] at s2
    clear lx ly da db vx vy rx ry
    clear h_ h
    go_enter Try.func56, Try.ntmps56
    go_wp2_with fail
    refine (HB.out _).mono ?_
    rintro e w1 ⟨rfl, rfl⟩
    go_wp2_with fail
    refine (DA.out _).mono ?_
    rintro e w2 ⟨v, rfl, hv, hb2⟩
    go_wp2_with fail
    refine (DB.out _).mono ?_
    rintro e w3 ⟨u, rfl, hu, hb3⟩
    have hbl3 := hb2.trans (hb3.mono hb2.size)
    obtain ⟨oa, cap, rfl, hcap, hcm⟩ := hv.shp
    obtain ⟨ob, cap', rfl, hcap', hcm'⟩ := hu.shp
    have HV := Lib.hid (hv.below hb3)
    have HU := Lib.hid hu
    have HB3 := Lib.hid hbl3
    clear hv hu hb2 hb3 hbl3
    go_wp2_with fail
    go_loopw [9, 10] (fun l i wr => ∃ (k : Nat) (o : List Int), k ≤ max X.length Y.length ∧ i = .int .i64 (k : Int) ∧ linI 1 X Y o k ∧ OwnZ wr w3.heap.size l o ∧ Below w3.heap.size w3 wr) (fun _ i _ => max X.length Y.length - (intOf i).toNat)
    case atStart => exact ⟨0, [], by omega, rfl, linI.zero _ _ _, OwnZ.lit0 w3, (Below.refl _ _).alloc (Nat.le_refl _) _⟩
    case round =>
      obtain ⟨k, o, hk, rfl, hL, hown, hbl⟩ := hrel
      have hol := hL.len
      have HL := Lib.hid hL
      clear hL
      obtain ⟨ol, cl, hlv, hcl, hclm⟩ := hown.shp
      subst hlv
      by_cases hm : X.length < Y.length
      · skip
        by_cases h0 : k < Y.length
        · skip
          have hxr := getD_range RX.out (by omega) (by omega) k
          have hyr := getD_range RY.out (by omega) (by omega) k
          have ax := fun ww (h : OwnZ ww w.heap.size (.slice oa X.length cap) X) => at_any _ _ X k ww h (by omega)
          have ay := fun ww (h : OwnZ ww w2.heap.size (.slice ob Y.length cap') Y) => at_any _ _ Y k ww h (by omega)
          generalize hx : X.getD k 0 = x at *
          generalize hy : Y.getD k 0 = y at *
          have AX := Lib.hid (ax wr (HV.out.below hbl))
          have AY := Lib.hid (ay wr (HU.out.below hbl))
          have HST := Lib.hid (HL.out.step (x + y) (by rw [hx, hy]; omega) (by omega))
          obtain ⟨x1, x2⟩ := hxr
          obtain ⟨y1, y2⟩ := hyr
          have hol2 : o.length + 1 ≤ 4294967296 := by omega
          clear ax ay hx hy hol
          go_wp2_with fail
          refine AX.out.mono ?_
          rintro e w4 ⟨rfl, rfl⟩
          go_wp2_with fail
          refine AY.out.mono ?_
          rintro e w4 ⟨rfl, rfl⟩
          go_wp2_with (at_builtin; refine append1I wr rfl _ _ 164 rfl w3.heap.size 3 .i64 8 info_i64 Try.underlying164 _ o hown rfl _ _ _ rfl rfl hol2 (by omega) hbl.size ?_)
          intro l' w4 hown' hgrow
          have hbl2 := grown_belowI hbl hown hgrow hbl.size
          clear hgrow hown hbl
          go_wp2_with fail
          go_roundw
          case rel => exact ⟨k + 1, _, by omega, by go_num, HST.out, hown', hbl2⟩
          case measure => simp [intOf]; omega
        · have hsum : vle o = ((nv a + nv b : Nat) : Int) := by
            rw [HL.out.done (by omega) (by omega), VX.out, VY.out]
            omega
          have hnc := numcarry _ _ o wr (nv a + nv b) hown (fun x hx => by have := HL.out.rng x hx; omega) hsum (by omega)
          have HNC := Lib.hid hnc
          clear hnc hsum hol
          go_wp2_with fail
          refine HNC.out.mono ?_
          rintro e w5 ⟨v', rfl, hb5, hn⟩
          have HN := Lib.hid hn
          clear hn
          go_wp2_with fail
          refine HN.out.mono ?_
          rintro e w6 ⟨rfl, hb6⟩
          go_wp2_with fail
          refine (rshort_any _ _).mono ?_
          rintro e w7 ⟨rfl, rfl⟩
          go_wp2_with fail
          go_ret2
          have hbw : Below w.heap.size w wr := HB3.out.trans (hbl.mono HB3.out.size)
          exact ⟨by rw [E.out]; rfl, hbw.trans (hb6.mono hbw.size)⟩
      · replace hm : Y.length ≤ X.length := by omega
        by_cases h0 : k < X.length
        · skip
          have hxr := getD_range RX.out (by omega) (by omega) k
          have hyr := getD_range RY.out (by omega) (by omega) k
          have ax := fun ww (h : OwnZ ww w.heap.size (.slice oa X.length cap) X) => at_any _ _ X k ww h (by omega)
          have ay := fun ww (h : OwnZ ww w2.heap.size (.slice ob Y.length cap') Y) => at_any _ _ Y k ww h (by omega)
          generalize hx : X.getD k 0 = x at *
          generalize hy : Y.getD k 0 = y at *
          have AX := Lib.hid (ax wr (HV.out.below hbl))
          have AY := Lib.hid (ay wr (HU.out.below hbl))
          have HST := Lib.hid (HL.out.step (x + y) (by rw [hx, hy]; omega) (by omega))
          obtain ⟨x1, x2⟩ := hxr
          obtain ⟨y1, y2⟩ := hyr
          have hol2 : o.length + 1 ≤ 4294967296 := by omega
          clear ax ay hx hy hol
          go_wp2_with fail
          refine AX.out.mono ?_
          rintro e w4 ⟨rfl, rfl⟩
          go_wp2_with fail
          refine AY.out.mono ?_
          rintro e w4 ⟨rfl, rfl⟩
          go_wp2_with (at_builtin; refine append1I wr rfl _ _ 164 rfl w3.heap.size 3 .i64 8 info_i64 Try.underlying164 _ o hown rfl _ _ _ rfl rfl hol2 (by omega) hbl.size ?_)
          intro l' w4 hown' hgrow
          have hbl2 := grown_belowI hbl hown hgrow hbl.size
          clear hgrow hown hbl
          go_wp2_with fail
          go_roundw
          case rel => exact ⟨k + 1, _, by omega, by go_num, HST.out, hown', hbl2⟩
          case measure => simp [intOf]; omega
        · have hsum : vle o = ((nv a + nv b : Nat) : Int) := by
            rw [HL.out.done (by omega) (by omega), VX.out, VY.out]
            omega
          have hnc := numcarry _ _ o wr (nv a + nv b) hown (fun x hx => by have := HL.out.rng x hx; omega) hsum (by omega)
          have HNC := Lib.hid hnc
          clear hnc hsum hol
          go_wp2_with fail
          refine HNC.out.mono ?_
          rintro e w5 ⟨v', rfl, hb5, hn⟩
          have HN := Lib.hid hn
          clear hn
          go_wp2_with fail
          refine HN.out.mono ?_
          rintro e w6 ⟨rfl, hb6⟩
          go_wp2_with fail
          refine (rshort_any _ _).mono ?_
          rintro e w7 ⟨rfl, rfl⟩
          go_wp2_with fail
          go_ret2
          have hbw : Below w.heap.size w wr := HB3.out.trans (hbl.mono HB3.out.size)
          exact ⟨by rw [E.out]; rfl, hbw.trans (hb6.mono hbw.size)⟩
  · have E : Hid (addF a b = (bE, chkN [a, b])) := Lib.hid (if_neg h)
    have HB := Lib.hid h_
    have h2 : (chkN [a, b] != 0) = true := by simpa using h
    clear h_ h
    go_enter Try.func56, Try.ntmps56
    go_wp2_with fail
    refine (HB.out _).mono ?_
    rintro e w1 ⟨rfl, rfl⟩
    go_wp2_with fail
    go_ret2
    exact ⟨by rw [E.out]; rfl, Below.refl _ _⟩

set_option maxHeartbeats 4000000 in
theorem minus_any (a b : ByteArray) (w : World) (s1 : a.size ≤ 4096) (s2 : b.size ≤ a.size) (hle : nv b ≤ nv a) :
    Calls Try.prog 122 #[.string a, .string b] w fun e w' => e = .returned (.string (encS (nv a - nv b))) ∧ Below w.heap.size w w' := by
  have lx := dgi_len a
  have ly := dgi_len b
  have vx := vle_dgi_nv a
  have vy := vle_dgi_nv b
  have da := fun w => digits_any a w (by omega)
  have db := fun w => digits_any b w (by omega)
  have rx := dgi_range a.data.toList
  have ry := dgi_range b.data.toList
  generalize dgi a.data.toList = X at *
  generalize dgi b.data.toList = Y at *
  have DA := Lib.hid da
  have DB := Lib.hid db
  have VX := Lib.hid vx
  have VY := Lib.hid vy
  have RX := Lib.hid rx
  have RY := Lib.hid ry
  rw [← lx] at s1 s2
  rw [← ly] at s2
  clear lx ly da db vx vy rx ry
  go_enter Try.func122, Try.ntmps122
  go_wp2_with fail
  refine (DA.out _).mono ?_
  rintro e w2 ⟨v, rfl, hv, hb2⟩
  go_wp2_with fail
  refine (DB.out _).mono ?_
  rintro e w3 ⟨u, rfl, hu, hb3⟩
  have hbl3 := hb2.trans (hb3.mono hb2.size)
  obtain ⟨oa, cap, rfl, hcap, hcm⟩ := hv.shp
  obtain ⟨ob, cap', rfl, hcap', hcm'⟩ := hu.shp
  have HV := Lib.hid (hv.below hb3)
  have HU := Lib.hid hu
  have HB3 := Lib.hid hbl3
  clear hv hu hb2 hb3 hbl3
  go_wp2_with fail
  go_loopw [7, 8] (fun l i wr => ∃ (k : Nat) (o : List Int), k ≤ X.length ∧ i = .int .i64 (k : Int) ∧ linI (-1) X Y o k ∧ OwnZ wr w3.heap.size l o ∧ Below w3.heap.size w3 wr) (fun _ i _ => X.length - (intOf i).toNat)
  case atStart => exact ⟨0, [], by omega, rfl, linI.zero _ _ _, OwnZ.lit0 w3, (Below.refl _ _).alloc (Nat.le_refl _) _⟩
  case round =>
    obtain ⟨k, o, hk, rfl, hL, hown, hbl⟩ := hrel
    have hol := hL.len
    have HL := Lib.hid hL
    clear hL
    obtain ⟨ol, cl, hlv, hcl, hclm⟩ := hown.shp
    subst hlv
    by_cases h0 : k < X.length
    · skip
      have hxr := getD_range RX.out (by omega) (by omega) k
      have hyr := getD_range RY.out (by omega) (by omega) k
      have ax := fun ww (h : OwnZ ww w.heap.size (.slice oa X.length cap) X) => at_any _ _ X k ww h (by omega)
      have ay := fun ww (h : OwnZ ww w2.heap.size (.slice ob Y.length cap') Y) => at_any _ _ Y k ww h (by omega)
      generalize hx : X.getD k 0 = x at *
      generalize hy : Y.getD k 0 = y at *
      have AX := Lib.hid (ax wr (HV.out.below hbl))
      have AY := Lib.hid (ay wr (HU.out.below hbl))
      have HST := Lib.hid (HL.out.step (x - y) (by rw [hx, hy]; omega) (by omega))
      obtain ⟨x1, x2⟩ := hxr
      obtain ⟨y1, y2⟩ := hyr
      have hol2 : o.length + 1 ≤ 4294967296 := by omega
      clear ax ay hx hy hol
      go_wp2_with fail
      refine AX.out.mono ?_
      rintro e w4 ⟨rfl, rfl⟩
      go_wp2_with fail
      refine AY.out.mono ?_
      rintro e w4 ⟨rfl, rfl⟩
      go_wp2_with (at_builtin; refine append1I wr rfl _ _ 164 rfl w3.heap.size 3 .i64 8 info_i64 Try.underlying164 _ o hown rfl _ _ _ rfl rfl hol2 (by omega) hbl.size ?_)
      intro l' w4 hown' hgrow
      have hbl2 := grown_belowI hbl hown hgrow hbl.size
      clear hgrow hown hbl
      go_wp2_with fail
      go_roundw
      case rel => exact ⟨k + 1, _, by omega, by go_num, HST.out, hown', hbl2⟩
      case measure => simp [intOf]; omega
    · have hsum : vle o = ((nv a - nv b : Nat) : Int) := by
        rw [HL.out.done (by omega) (by omega), VX.out, VY.out]
        omega
      have hnc := numcarry _ _ o wr (nv a - nv b) hown (fun x hx => by have := HL.out.rng x hx; omega) hsum (by omega)
      have HNC := Lib.hid hnc
      clear hnc hsum hol
      go_wp2_with fail
      refine HNC.out.mono ?_
      rintro e w5 ⟨v', rfl, hb5, hn⟩
      have HN := Lib.hid hn
      clear hn
      go_wp2_with fail
      refine HN.out.mono ?_
      rintro e w6 ⟨rfl, hb6⟩
      go_wp2_with fail
      go_ret
      have hbw : Below w.heap.size w wr := HB3.out.trans (hbl.mono HB3.out.size)
      exact ⟨rfl, hbw.trans (hb6.mono hbw.size)⟩

theorem size_le_of {a b : ByteArray} (h1 : isN a = true) (h2 : isN b = true) (h : nv b ≤ nv a) : b.size ≤ a.size := by
  apply Decidable.byContradiction
  intro hc
  have := nv_lt_of_size h2 (show a.size < b.size by omega)
  omega
set_option maxHeartbeats 1000000 in
theorem rSub_any (a b : ByteArray) (w : World) :
    Calls Try.prog 66 #[.string a, .string b] w fun e w' => e = .returned (.tuple #[.string (subF a b).1, .int .i64 (subF a b).2]) ∧ Below w.heap.size w w' := by
  have h_ := fun w => both_any a b w
  by_cases h : chkN [a, b] = 0
  · obtain ⟨n1, n2, s1, s2⟩ := chk2_zero h
    rw [h] at h_
    have HB := Lib.hid h_
    have l1 := fun w => less_ref a b w n1 n2 (by unfold maxLen; omega) (by unfold maxLen; omega)
    by_cases hlt : nv a < nv b
    · have E : Hid (subF a b = (bE, 1)) := Lib.hid (by rw [subF, if_pos h, if_pos hlt])
      rw [decide_eq_true hlt] at l1
      have HL := Lib.hid l1
      clear h_ h l1 hlt
      go_enter Try.func66, Try.ntmps66
      go_wp2_with fail
      refine (HB.out _).mono ?_
      rintro e w1 ⟨rfl, rfl⟩
      go_wp2_with fail
      refine (HL.out _).mono ?_
      rintro e w2 ⟨rfl, k, rfl⟩
      go_wp2_with fail
      go_ret2
      exact ⟨by rw [E.out]; rfl, below_drewN (Below.refl _ _) k⟩
    · have E : Hid (subF a b = (encS (nv a - nv b), 0)) := Lib.hid (by rw [subF, if_pos h, if_neg hlt])
      have HM := Lib.hid (fun w => minus_any a b w (by omega) (size_le_of n1 n2 (by omega)) (by omega))
      rw [decide_eq_false hlt] at l1
      have HL := Lib.hid l1
      clear h_ h l1 hlt
      go_enter Try.func66, Try.ntmps66
      go_wp2_with fail
      refine (HB.out _).mono ?_
      rintro e w1 ⟨rfl, rfl⟩
      go_wp2_with fail
      refine (HL.out _).mono ?_
      rintro e w2 ⟨rfl, k, rfl⟩
      go_wp2_with fail
      refine (HM.out _).mono ?_
      rintro e w3 ⟨rfl, hb3⟩
      go_wp2_with fail
      go_ret2
      exact ⟨by rw [E.out]; rfl, (below_drewN (Below.refl _ _) k).trans hb3⟩
  · have E : Hid (subF a b = (bE, chkN [a, b])) := Lib.hid (if_neg h)
    have HB := Lib.hid h_
    have h2 : (chkN [a, b] != 0) = true := by simpa using h
    clear h_ h
    go_enter Try.func66, Try.ntmps66
    go_wp2_with fail
    refine (HB.out _).mono ?_
    rintro e w1 ⟨rfl, rfl⟩
    go_wp2_with fail
    go_ret2
    exact ⟨by rw [E.out]; rfl, Below.refl _ _⟩

end Go.Proofs.Ytmcejefeloljiaa

/-
  The walks of the reference for naturals: Mul.
-/
namespace Go.Proofs.Ytmcejefeloljiaa
open Go.RowKit Nm

/-- between two rounds of the loops of 'Mul' -/
structure mulI (X Y o : List Int) (i j : Nat) (x : Int) : Prop where
  len : o.length = X.length + Y.length
  sum : vle o = vle (X.take i) * vle Y + 256 ^ i * (x * vle (Y.take j))
  rng : ∀ z ∈ o, 0 ≤ z ∧ z ≤ (256 * i + j) * 65025
theorem mulI.zero (X Y : List Int) : mulI X Y (List.replicate (X.length + Y.length) 0) 0 0 0 := by
  refine ⟨by simp, by rw [vle_replicate]; simp [vle], ?_⟩
  intro z hz
  rw [List.mem_replicate] at hz
  omega
theorem mulI.set {X Y o : List Int} {i j : Nat} {x y l : Int} (h : mulI X Y o i j x) (hj : j < Y.length) (hi : i + j < o.length) (hy : Y[j] = y) (hl : o[i + j] = l)
    (hr : 0 ≤ x * y ∧ x * y ≤ 65025) : mulI X Y (o.set (i + j) (l + x * y)) i (j + 1) x := by
  refine ⟨by rw [List.length_set]; exact h.len, ?_, ?_⟩
  · rw [vle_set o (i + j) _ hi, hl, h.sum, vle_take Y j, show Y.getD j 0 = y by simp [List.getD, hj, hy]]
    rw [show l + x * y - l = x * y by omega, Int.pow_add, Int.mul_add x, Int.mul_add (256 ^ i), Int.add_assoc]
    congr 2
    rw [Int.mul_assoc, Int.mul_left_comm (256 ^ j)]
  · intro z hz
    have h0 := h.rng l (by rw [← hl]; exact List.getElem_mem hi)
    rcases List.mem_or_eq_of_mem_set hz with hz | hz
    · have := h.rng z hz
      omega
    · omega
theorem mulI.next {X Y o : List Int} {i : Nat} {x : Int} (h : mulI X Y o i Y.length x) (hi : i < X.length) (hx : X[i] = x) (hY : Y.length ≤ 256) : mulI X Y o (i + 1) 0 0 := by
  refine ⟨h.len, ?_, ?_⟩
  · rw [h.sum, List.take_length, vle_take X i, show X.getD i 0 = x by simp [List.getD, hi, hx], Int.add_mul]
    simp [vle, Int.mul_assoc]
  · intro z hz
    have := h.rng z hz
    omega
theorem mulI.begin {X Y o : List Int} {i : Nat} {x : Int} (h : mulI X Y o i 0 0) : mulI X Y o i 0 x := by
  refine ⟨h.len, ?_, h.rng⟩
  rw [h.sum]
  simp [vle]
theorem mulI.done {X Y o : List Int} {i : Nat} (h : mulI X Y o i 0 0) (hi : X.length ≤ i) : vle o = vle X * vle Y := by
  rw [h.sum, List.take_of_length_le hi]
  simp
theorem mul_small {x y : Int} (hx : 0 ≤ x ∧ x < 256) (hy : 0 ≤ y ∧ y < 256) : 0 ≤ x * y ∧ x * y ≤ 65025 := by
  refine ⟨Int.mul_nonneg hx.1 hy.1, ?_⟩
  have h1 : x * y ≤ 255 * y := Int.mul_le_mul_of_nonneg_right (by omega) hy.1
  omega

set_option maxHeartbeats 4000000 in
theorem rMul_any (a b : ByteArray) (w : World) :
    Calls Try.prog 64 #[.string a, .string b] w fun e w' => e = .returned (.tuple #[.string (mulF a b).1, .int .i64 (mulF a b).2]) ∧ Below w.heap.size w w' := by
  have h_ := fun w => both_any a b w
  by_cases h : chkN [a, b] = 0
  · have E : Hid (mulF a b = shortN (nv a * nv b)) := Lib.hid (if_pos h)
    obtain ⟨_, _, s1, s2⟩ := chk2_zero h
    rw [h] at h_
    have HB := Lib.hid h_
    have lx := dgi_len a
    have ly := dgi_len b
    have vx := vle_dgi_nv a
    have vy := vle_dgi_nv b
    have da := fun w => digits_any a w (by omega)
    have db := fun w => digits_any b w (by omega)
    have rx := dgi_range a.data.toList
    have ry := dgi_range b.data.toList
    generalize dgi a.data.toList = X at *
    generalize dgi b.data.toList = Y at *
    have DA := Lib.hid da
    have DB := Lib.hid db
    have VX := Lib.hid vx
    have VY := Lib.hid vy
    have RX := Lib.hid rx
    have RY := Lib.hid ry
    rw [← lx] at s1
    rw [← ly] at s2
    clear lx ly da db vx vy rx ry h_ h
    obtain ⟨i0, hi, hz0, hz1, hz2⟩ := info_parts info_i64
    go_enter Try.func64, Try.ntmps64
    go_wp2_with fail
    refine (HB.out _).mono ?_
    rintro e w1 ⟨rfl, rfl⟩
    go_wp2_with fail
    refine (DA.out _).mono ?_
    rintro e w2 ⟨v, rfl, hv, hb2⟩
    go_wp2_with fail
    refine (DB.out _).mono ?_
    rintro e w3 ⟨u, rfl, hu, hb3⟩
    have hbl3 := hb2.trans (hb3.mono hb2.size)
    obtain ⟨oa, cap, rfl, hcap, hcm⟩ := hv.shp
    obtain ⟨ob, cap', rfl, hcap', hcm'⟩ := hu.shp
    have HV := Lib.hid (hv.below hb3)
    have HU := Lib.hid hu
    have HB3 := Lib.hid hbl3
    clear hv hu hb2 hb3 hbl3
    go_wp2_with (at_make; refine wpList_make_full _ rfl _ _ 164 rfl w3.heap.size 3 i0 (.int .i64 0) 1 Try.underlying164 hi hz0 hz1 .i64 .i64 _ _ (X.length + Y.length) rfl rfl (by omega) (by omega) (by rw [hz2]; omega) (by unfold maxLen; omega) (Nat.le_refl _) ?_)
    intro w4 hown hgrow
    have hown4 := OwnI.made hown
    have hbl4 := below_grown (B := w3.heap.size) hgrow (Nat.le_refl _) (by simp)
    have HO4 := Lib.hid hown4
    have HB4 := Lib.hid hbl4
    clear hown hgrow hown4 hbl4 hi hz0 hz1 hz2
    go_wp2_with fail
    go_loopw [10] (fun i wr => ∃ (k : Nat) (o : List Int), k ≤ X.length ∧ i = .int .i64 k ∧ mulI X Y o k 0 0 ∧ OwnZ wr w3.heap.size (.slice (some ⟨w3.heap.size, 0, none⟩) (X.length + Y.length) (X.length + Y.length)) o ∧ Below w3.heap.size w3 wr) (fun i _ => X.length - (intOf i).toNat)
    case atStart => exact ⟨0, _, Nat.zero_le _, rfl, mulI.zero X Y, HO4.out, HB4.out⟩
    case round =>
      obtain ⟨i, o, hi, rfl, hM, hown, hbl⟩ := hrel
      have HM := Lib.hid hM
      have HO := Lib.hid hown
      clear hM hown
      by_cases hlt : i < X.length
      · obtain ⟨g, rfl, hg1, hg2⟩ := OwnI.at HV.out (by omega)
        have hxr := RX.out _ (List.getElem_mem hlt)
        have hcx := (OwnI.below HV.out hbl).cell i hlt
        generalize hgx : X[i] = x at *
        have HGX := Lib.hid hgx
        have HXR := Lib.hid hxr
        clear hgx hcx hxr
        obtain ⟨wo, rfl⟩ : ∃ wo, wo = wr := ⟨_, rfl⟩
        go_wp2_with fail
        go_loopw [11] (fun j wr => ∃ (k : Nat) (o : List Int), k ≤ Y.length ∧ j = .int .i64 k ∧ mulI X Y o i k x ∧ OwnZ wr w3.heap.size (.slice (some ⟨w3.heap.size, 0, none⟩) (X.length + Y.length) (X.length + Y.length)) o ∧ Below w3.heap.size w3 wr) (fun j _ => Y.length - (intOf j).toNat)
        case atStart => exact ⟨0, o, Nat.zero_le _, rfl, HM.out.begin, HO.out, hbl⟩
        case round =>
          clear hbl
          obtain ⟨j, o', hj, rfl, hM', hown', hbl'⟩ := hrel
          have HM' := Lib.hid hM'
          clear hM'
          by_cases hltj : j < Y.length
          · obtain ⟨g', rfl, hg3, hg4⟩ := OwnI.at HU.out (by omega)
            have hyr := RY.out _ (List.getElem_mem hltj)
            have hcx := (OwnI.below HV.out hbl').cell i hlt
            rw [HGX.out] at hcx
            have hcy := (OwnI.below HU.out hbl').cell j hltj
            generalize hgy : Y[j] = y at *
            have HGY := Lib.hid hgy
            clear hgy
            have hij : i + j < o'.length := by rw [HM'.out.len]; omega
            have hcl := hown'.cell (i + j) hij
            have hfl := hown'.frozen (i + j)
            have hls := HM'.out.rng o'[i + j] (List.getElem_mem _)
            generalize hgl : o'[i + j] = l at *
            have HGL := Lib.hid hgl
            clear hgl
            obtain ⟨xy1, xy2⟩ := mul_small HXR.out hyr
            obtain ⟨l1, l2⟩ := hls
            have l3 : l ≤ 8589934592 := by omega
            clear l2 hyr
            have HST := Lib.hid (hown'.stored (i + j) (l + x * y))
            go_wp2_with fail
            go_region
            go_wp2_with fail
            go_roundw
            case rel => exact ⟨j + 1, _, by omega, by go_num, HM'.out.set hltj hij HGY.out HGL.out ⟨xy1, xy2⟩, (HST.out.1).drew, (hbl'.setCell (p := ⟨w3.heap.size, i + j, none⟩) (Nat.le_refl _) _).drew⟩
            case measure => simp [intOf]; omega
          · obtain rfl : j = Y.length := by omega
            go_wp2_with fail
            go_roundw
            case rel => exact ⟨i + 1, o', by omega, by go_num, HM'.out.next hlt HGX.out s2, hown', hbl'⟩
            case measure => simp [intOf]; omega
      · have hsum : vle o = ((nv a * nv b : Nat) : Int) := by
          rw [HM.out.done (by omega), VX.out, VY.out, Int.natCast_mul]
        have hnc := numcarry _ _ o wr (nv a * nv b) HO.out (fun x hx => by have := HM.out.rng x hx; omega) hsum (by rw [HM.out.len]; omega)
        have HNC := Lib.hid hnc
        clear hnc hsum
        go_wp2_with fail
        refine HNC.out.mono ?_
        rintro e w5 ⟨v', rfl, hb5, hn⟩
        have HN := Lib.hid hn
        clear hn
        go_wp2_with fail
        refine HN.out.mono ?_
        rintro e w6 ⟨rfl, hb6⟩
        go_wp2_with fail
        refine (rshort_any _ _).mono ?_
        rintro e w7 ⟨rfl, rfl⟩
        go_wp2_with fail
        go_ret2
        have hbw : Below w.heap.size w wr := HB3.out.trans (hbl.mono HB3.out.size)
        exact ⟨by rw [E.out]; rfl, hbw.trans (hb6.mono hbw.size)⟩
  · have E : Hid (mulF a b = (bE, chkN [a, b])) := Lib.hid (if_neg h)
    have HB := Lib.hid h_
    have h2 : (chkN [a, b] != 0) = true := by simpa using h
    clear h_ h
    go_enter Try.func64, Try.ntmps64
    go_wp2_with fail
    refine (HB.out _).mono ?_
    rintro e w1 ⟨rfl, rfl⟩
    go_wp2_with fail
    go_ret2
    exact ⟨by rw [E.out]; rfl, Below.refl _ _⟩

end Go.Proofs.Ytmcejefeloljiaa

/-
  The walks of the reference for naturals: divide, Div, Gcd.
-/
namespace Go.Proofs.Ytmcejefeloljiaa
open Go.RowKit Nm

theorem div_step (P B c : Nat) (hB : 0 < B) : (P * 256 + c) / B = P / B * 256 + (P % B * 256 + c) / B ∧ (P * 256 + c) % B = (P % B * 256 + c) % B := by
  have h := Nat.div_add_mod P B
  have e : P * 256 + c = (P % B * 256 + c) + B * (P / B * 256) := by
    conv => lhs; rw [← h]
    rw [Nat.add_mul, Nat.mul_assoc]
    omega
  rw [e, Nat.add_mul_div_left _ _ hB, Nat.add_mul_mod_self_left]
  exact ⟨by omega, rfl⟩

theorem ext1 (a : ByteArray) (k : Nat) (h : k < a.size) : (a.extract k (k + 1)).data.toList = [a[k]] := by
  rw [ByteArray.data_extract, Array.toList_extract, List.extract_eq_take_drop]
  have := sdata_length a
  rw [show k + 1 - k = 1 by omega, List.drop_eq_getElem_cons (by omega)]
  rfl
theorem cat1 (R : Nat) (a : ByteArray) (k : Nat) (h : k < a.size) : (encS R ++ a.extract k (k + 1)).data.toList = enc R ++ [a[k]] := by
  rw [ByteArray.data_append, Array.toList_append, ext1 a k h]
  rfl
theorem head0 (s : ByteArray) (h : 0 < s.size) (l : List UInt8) (x : UInt8) (e : s.data.toList = x :: l) : s[0] = x := by
  show s.data.toList[0]'_ = x
  simp only [e]
  rfl
theorem cat_pos (R : Nat) (a : ByteArray) (k : Nat) (h : k < a.size) : 0 < (encS R ++ a.extract k (k + 1)).size := by
  rw [← sdata_length, cat1 R a k h]; simp
theorem same_text {s : ByteArray} {n : Nat} (h : s.data.toList = enc n) : s = encS n := by
  show s = ⟨(enc n).toArray⟩
  rw [← h]
theorem cat_z (R : Nat) (a : ByteArray) (k : Nat) (h : k < a.size) (e : Nat) (he : e = (encS R).size + (min (k + 1) a.size - k)) (hz : ((encS R ++ a.extract k (k + 1))[0]'(cat_pos R a k h)).toNat = 0) :
    (encS R ++ a.extract k (k + 1)).extract 1 e = encS (R * 256 + a[k].toNat) := by
  have hc := cat1 R a k h
  by_cases h0 : R = 0
  · subst h0
    have h1 := head0 _ (cat_pos 0 a k h) [] a[k] hc
    rw [h1] at hz
    apply same_text
    rw [hz, ByteArray.data_extract, Array.toList_extract, List.extract_eq_take_drop, hc]
    simp [enc_zero]
  · exfalso
    have hne := enc_ne_nil R (by omega)
    cases hl : enc R with
    | nil => exact hne hl
    | cons x l =>
      rw [hl] at hc
      have h1 := head0 _ (cat_pos R a k h) _ _ hc
      rw [h1] at hz
      have hn := natl_enc R
      rw [hl] at hn
      simp only [natl, bne_iff_ne] at hn
      exact hn (UInt8.toNat_inj.1 hz)
theorem cat_nz (R : Nat) (a : ByteArray) (k : Nat) (h : k < a.size) (hz : ¬ ((encS R ++ a.extract k (k + 1))[0]'(cat_pos R a k h)).toNat = 0) :
    encS R ++ a.extract k (k + 1) = encS (R * 256 + a[k].toNat) := by
  have hc := cat1 R a k h
  apply same_text
  rw [hc, enc_step R _ a[k].toNat_lt, if_neg]
  · simp
  · rintro ⟨rfl, h0⟩
    have h1 := head0 _ (cat_pos 0 a k h) [] a[k] hc
    rw [h1] at hz
    exact hz h0

theorem div_mod_of (t B n : Nat) (h1 : t * B ≤ n) (h2 : n - t * B < B) : t = n / B ∧ n - t * B = n % B := by
  have e : n = (n - t * B) + B * t := by rw [Nat.mul_comm B t]; omega
  have hB : 0 < B := by omega
  constructor
  · conv => rhs; rw [e]
    rw [Nat.add_mul_div_left _ _ hB, Nat.div_eq_of_lt h2, Nat.zero_add]
  · conv => rhs; rw [e]
    rw [Nat.add_mul_mod_self_left, Nat.mod_eq_of_lt h2]

set_option maxHeartbeats 4000000 in
theorem divide_ref (a b : ByteArray) (w : World) (n2 : isN b = true) (s1 : a.size ≤ 256) (s2 : b.size ≤ 256) (hB : 0 < nv b) :
    Calls Try.prog 111 #[.string a, .string b] w fun e w' => e = .returned (.tuple #[.string (encS (nv a / nv b)), .string (encS (nv a % nv b))]) ∧ Below w.heap.size w w' := by
  go_enter Try.func111, Try.ntmps111
  go_wp2_with fail
  go_loopw [6, 7, 8] (fun q r i wr => ∃ k : Nat, k ≤ a.size ∧ i = .int .i64 (k : Int) ∧ r = .string (encS (val (a.data.toList.take k) % nv b)) ∧ OwnB wr w.heap.size q (enc (val (a.data.toList.take k) / nv b)) ∧ Below w.heap.size w wr) (fun _ _ i _ => a.size - (intOf i).toNat)
  case atStart => exact ⟨0, Nat.zero_le _, rfl, by rw [List.take_zero, val_nil, Nat.zero_mod, encS0_eq'], by rw [List.take_zero, val_nil, Nat.zero_div]; exact OwnB.lit0 w, (Below.refl _ _).alloc (Nat.le_refl _) _⟩
  case round =>
    obtain ⟨k, hk, rfl, rfl, hq, hbl⟩ := hrel
    by_cases h0 : k < a.size
    · have hv_ := val_take_succ k h0
      have hc256 := a[k].toNat_lt
      have hvlt : nv b < 256 ^ 256 := by
        have h1 := val_lt b.data.toList
        rw [sdata_length] at h1
        exact Nat.lt_of_lt_of_le h1 (Nat.pow_le_pow_right (by omega) s2)
      have hR0 : val (a.data.toList.take k) % nv b < nv b := Nat.mod_lt _ hB
      have hQl : (enc (val (a.data.toList.take k) / nv b)).length ≤ 256 := by
        rw [enc_length_le]
        refine Nat.lt_of_le_of_lt (Nat.div_le_self _ _) (Nat.lt_of_le_of_lt (val_take_le k) ?_)
        have h1 := val_lt a.data.toList
        rw [sdata_length] at h1
        exact Nat.lt_of_lt_of_le h1 (Nat.pow_le_pow_right (by omega) s1)
      generalize hR : val (a.data.toList.take k) % nv b = R at *
      generalize hQ : val (a.data.toList.take k) / nv b = Q at *
      have HRB := Lib.hid hR
      have HQB := Lib.hid hQ
      have HRL := Lib.hid hR0
      have HQL := Lib.hid hQl
      have hcz := cat_z R a k h0 _ rfl
      have hcn := cat_nz R a k h0
      have hpos := cat_pos R a k h0
      have hsz : (encS R).size ≤ 256 := by
        rw [size_encS, enc_length_le]
        exact Nat.lt_trans hR0 hvlt
      have hpos2 : 0 < (encS R).size + (min (k + 1) a.size - k) := by omega
      have hRc : Hid ((enc (R * 256 + a[k].toNat)).length ≤ 257) := Lib.hid (by
        rw [enc_step R _ hc256]
        rw [size_encS] at hsz
        split
        · simp
        · rw [List.length_append]; simp; omega)
      generalize hc : a[k].toNat = c at *
      have HV := Lib.hid hv_
      have HC := Lib.hid hc256
      clear hR hQ hvlt hR0 hQl hv_ hc hc256
      by_cases hz : ((encS R ++ a.extract k (k + 1))[0]'hpos).toNat = 0
      · have hz' : ((((encS R ++ a.extract k (k + 1))[0]'hpos).toNat : Int) == 0) = true := by
          rw [hz]; rfl
        replace hcz := Lib.hid (hcz hz)
        clear hcn
        have hr : (encS R ++ a.extract k (k + 1)).extract 1 ((encS R).size + (min (k + 1) a.size - k)) = encS (R * 256 + c) := hcz.out
        go_wp2_with fail
        clear hr hz hz'
        obtain ⟨wo, rfl⟩ : ∃ wo, wo = wr := ⟨_, rfl⟩
        go_loopw [7, 9] (fun r d wq => ∃ t : Nat, d = .int .i64 (t : Int) ∧ r = .string (encS (R * 256 + c - t * nv b)) ∧ t * nv b ≤ R * 256 + c ∧ Below wo.heap.size wo wq) (fun _ d _ => R * 256 + c + 1 - (intOf d).toNat)
        case atStart => exact ⟨0, rfl, by rw [Nat.zero_mul]; rfl, by omega, Below.refl _ _⟩
        case round =>
          obtain ⟨t, rfl, rfl, ht, hbq⟩ := hrel
          have htR : t ≤ R * 256 + c := Nat.le_trans (by have := Nat.mul_le_mul_left t hB; omega) ht
          have hm1 := isN_encS (R * 256 + c - t * nv b)
          have hs1 : (encS (R * 256 + c - t * nv b)).size ≤ 257 := by
            rw [size_encS]
            exact Nat.le_trans (enc_len_mono (Nat.sub_le _ _)) hRc.out
          have hl := fun w => less_ref (encS (R * 256 + c - t * nv b)) b w hm1 n2 (by unfold maxLen; omega) (by unfold maxLen; omega)
          rw [nv_encS] at hl
          by_cases hlt : R * 256 + c - t * nv b < nv b
          · rw [decide_eq_true hlt] at hl
            obtain ⟨hd1, hd2⟩ := div_mod_of t (nv b) (R * 256 + c) ht hlt
            have ht256 : t < 256 := by
              rw [hd1]
              rw [Nat.div_lt_iff_lt_mul hB]
              have : R < nv b := HRL.out
              have := HC.out
              omega
            rw [hd2] at hl ⊢
            have HD1 := Lib.hid hd1
            have hbq2 : Below w.heap.size w wr := hbl.trans (hbq.mono hbl.size)
            have hq2 := hq.below hbq
            obtain ⟨ob, cb, hv, hcb, hcbm⟩ := hq2.shp
            rw [List.length_map] at hv hcb
            subst hv
            have hQl := (enc_length_le Q 256)
            have hl2 : ((enc Q).map UInt8.toNat).length + 1 ≤ 4294967296 := by
              rw [List.length_map]
              have := HQL.out
              omega
            have HQE := Lib.hid (enc_step Q t ht256)
            have hP := HV.out
            have hnext := div_step (val (a.data.toList.take k)) (nv b) c hB
            rw [HRB.out, HQB.out, ← hP] at hnext
            have HN := Lib.hid hnext
            have htw : ((UInt8.ofNat t).toNat : Int) = t := by
              have : (UInt8.ofNat t).toNat = t := by simp; omega
              omega
            have HTW := Lib.hid htw
            have HL := Lib.hid hl
            clear hnext hP hd1 hd2 hlt hl hs1 hm1 ht hQl htw hq htR
            by_cases htp : 0 < t
            · skip
              have HQ2 : Hid (enc (Q * 256 + t) = enc Q ++ [UInt8.ofNat t]) := Lib.hid (by rw [HQE.out, if_neg]; rintro ⟨h1, h2⟩; omega)
              go_wp2_with fail
              refine (HL.out _).mono ?_
              rintro e w5 ⟨rfl, n5, rfl⟩
              go_wp2_with (at_builtin; refine append1 (wr.drewN n5) rfl _ _ 149 rfl w.heap.size 5 .u8 1 info_u8 Try.underlying149 _ ((enc Q).map UInt8.toNat) (hq2.drewN n5) rfl _ _ (UInt8.ofNat t).toNat HTW.out.symm rfl hl2 (by omega) hbq2.size ?_)
              intro v' w6 hown' hgrow
              have hbl6 := grown_below (below_drewN hbq2 n5) (hq2.drewN n5) hgrow hbq2.size
              clear hgrow hq2 hbq2
              go_wp2_with fail
              go_roundw
              case rel => exact ⟨k + 1, by omega, by go_num, by rw [HN.out.2], by rw [HN.out.1, ← HD1.out, HQ2.out]; unfold OwnB; simpa using hown', hbl6⟩
              case measure => simp [intOf]; omega
            · obtain rfl : t = 0 := by omega
              by_cases hqp : 0 < (enc Q).length
              · skip
                have HQ2 : Hid (enc (Q * 256 + 0) = enc Q ++ [UInt8.ofNat 0]) := Lib.hid (by rw [HQE.out, if_neg]; rintro ⟨h1, h2⟩; subst h1; simp [enc_zero] at hqp)
                go_wp2_with fail
                refine (HL.out _).mono ?_
                rintro e w5 ⟨rfl, n5, rfl⟩
                go_wp2_with (at_builtin; refine append1 (wr.drewN n5) rfl _ _ 149 rfl w.heap.size 5 .u8 1 info_u8 Try.underlying149 _ ((enc Q).map UInt8.toNat) (hq2.drewN n5) rfl _ _ (UInt8.ofNat 0).toNat HTW.out.symm rfl hl2 (by omega) hbq2.size ?_)
                intro v' w6 hown' hgrow
                have hbl6 := grown_below (below_drewN hbq2 n5) (hq2.drewN n5) hgrow hbq2.size
                clear hgrow hq2 hbq2
                go_wp2_with fail
                go_roundw
                case rel => exact ⟨k + 1, by omega, by go_num, by rw [HN.out.2], by rw [HN.out.1, ← HD1.out, HQ2.out]; unfold OwnB; simpa using hown', hbl6⟩
                case measure => simp [intOf]; omega
              · have hq0 : Q = 0 := by
                  apply Decidable.byContradiction
                  intro h
                  have := List.length_pos_iff.2 (enc_ne_nil Q (by omega))
                  omega
                have HQ0 := Lib.hid hq0
                clear hq0
                go_wp2_with fail
                refine (HL.out _).mono ?_
                rintro e w5 ⟨rfl, n5, rfl⟩
                go_wp2_with fail
                go_roundw
                case rel => exact ⟨k + 1, by omega, by go_num, by rw [HN.out.2], by rw [HN.out.1, ← HD1.out, HQE.out, if_pos ⟨HQ0.out, trivial⟩]; have h := hq2.drewN n5; rw [HQ0.out, enc_zero] at h; rw [HQ0.out] ; exact h, below_drewN hbq2 n5⟩
                case measure => simp [intOf]; omega
          · rw [decide_eq_false hlt] at hl
            have HL := Lib.hid hl
            have ht2 : (t + 1) * nv b ≤ R * 256 + c := by rw [Nat.add_mul]; omega
            have hmin := fun w => minus_any (encS (R * 256 + c - t * nv b)) b w (by omega) (size_le_of hm1 n2 (by rw [nv_encS]; omega)) (by rw [nv_encS]; omega)
            rw [nv_encS, show R * 256 + c - t * nv b - nv b = R * 256 + c - (t + 1) * nv b by rw [Nat.add_mul]; omega] at hmin
            have HM := Lib.hid hmin
            have HT2 := Lib.hid ht2
            have htb : (t : Int) < 9223372036854775800 := by
              have h1 : t < 65536 := by
                have : R < nv b := HRL.out
                have h2 : t * nv b ≤ R * 256 + c := ht
                have h3 : R * 256 + c < 256 * nv b := by have := HC.out; omega
                have h4 : t < 256 := by
                  apply Decidable.byContradiction
                  intro hc
                  have := Nat.mul_le_mul_right (nv b) (show 256 ≤ t by omega)
                  omega
                omega
              omega
            have HTR : Hid (t < R * 256 + c) := Lib.hid (by
              have h1 := Nat.mul_le_mul_left (t + 1) hB
              omega)
            clear hl hlt hmin hs1 hm1 ht ht2 htR
            go_wp2_with fail
            refine (HL.out _).mono ?_
            rintro e w5 ⟨rfl, n5, rfl⟩
            go_wp2_with fail
            refine (HM.out _).mono ?_
            rintro e w6 ⟨rfl, hb6⟩
            go_wp2_with fail
            go_roundw
            case rel => exact ⟨t + 1, by go_num, rfl, HT2.out, hbq.trans ((below_drewN (Below.refl _ _) n5).trans (hb6.mono hbq.size))⟩
            case measure => have := HTR.out; simp [intOf]; omega
      · have hz' : ((((encS R ++ a.extract k (k + 1))[0]'hpos).toNat : Int) == 0) = false := by
          rw [beq_eq_false_iff_ne]; omega
        replace hcn := Lib.hid (hcn hz)
        clear hcz
        go_wp2_with fail
        generalize ((encS R ++ a.extract k (k + 1))[0]'hpos).toNat = z0 at *
        generalize encS R ++ a.extract k (k + 1) = T at *
        obtain rfl := hcn.out
        clear hz hz' hcn
        obtain ⟨wo, rfl⟩ : ∃ wo, wo = wr := ⟨_, rfl⟩
        go_loopw [7, 9] (fun r d wq => ∃ t : Nat, d = .int .i64 (t : Int) ∧ r = .string (encS (R * 256 + c - t * nv b)) ∧ t * nv b ≤ R * 256 + c ∧ Below wo.heap.size wo wq) (fun _ d _ => R * 256 + c + 1 - (intOf d).toNat)
        case atStart => exact ⟨0, rfl, by rw [Nat.zero_mul]; rfl, by omega, Below.refl _ _⟩
        case round =>
          obtain ⟨t, rfl, rfl, ht, hbq⟩ := hrel
          have htR : t ≤ R * 256 + c := Nat.le_trans (by have := Nat.mul_le_mul_left t hB; omega) ht
          have hm1 := isN_encS (R * 256 + c - t * nv b)
          have hs1 : (encS (R * 256 + c - t * nv b)).size ≤ 257 := by
            rw [size_encS]
            exact Nat.le_trans (enc_len_mono (Nat.sub_le _ _)) hRc.out
          have hl := fun w => less_ref (encS (R * 256 + c - t * nv b)) b w hm1 n2 (by unfold maxLen; omega) (by unfold maxLen; omega)
          rw [nv_encS] at hl
          by_cases hlt : R * 256 + c - t * nv b < nv b
          · rw [decide_eq_true hlt] at hl
            obtain ⟨hd1, hd2⟩ := div_mod_of t (nv b) (R * 256 + c) ht hlt
            have ht256 : t < 256 := by
              rw [hd1]
              rw [Nat.div_lt_iff_lt_mul hB]
              have : R < nv b := HRL.out
              have := HC.out
              omega
            rw [hd2] at hl ⊢
            have HD1 := Lib.hid hd1
            have hbq2 : Below w.heap.size w wr := hbl.trans (hbq.mono hbl.size)
            have hq2 := hq.below hbq
            obtain ⟨ob, cb, hv, hcb, hcbm⟩ := hq2.shp
            rw [List.length_map] at hv hcb
            subst hv
            have hQl := (enc_length_le Q 256)
            have hl2 : ((enc Q).map UInt8.toNat).length + 1 ≤ 4294967296 := by
              rw [List.length_map]
              have := HQL.out
              omega
            have HQE := Lib.hid (enc_step Q t ht256)
            have hP := HV.out
            have hnext := div_step (val (a.data.toList.take k)) (nv b) c hB
            rw [HRB.out, HQB.out, ← hP] at hnext
            have HN := Lib.hid hnext
            have htw : ((UInt8.ofNat t).toNat : Int) = t := by
              have : (UInt8.ofNat t).toNat = t := by simp; omega
              omega
            have HTW := Lib.hid htw
            have HL := Lib.hid hl
            clear hnext hP hd1 hd2 hlt hl hs1 hm1 ht hQl htw hq htR
            by_cases htp : 0 < t
            · skip
              have HQ2 : Hid (enc (Q * 256 + t) = enc Q ++ [UInt8.ofNat t]) := Lib.hid (by rw [HQE.out, if_neg]; rintro ⟨h1, h2⟩; omega)
              go_wp2_with fail
              refine (HL.out _).mono ?_
              rintro e w5 ⟨rfl, n5, rfl⟩
              go_wp2_with (at_builtin; refine append1 (wr.drewN n5) rfl _ _ 149 rfl w.heap.size 5 .u8 1 info_u8 Try.underlying149 _ ((enc Q).map UInt8.toNat) (hq2.drewN n5) rfl _ _ (UInt8.ofNat t).toNat HTW.out.symm rfl hl2 (by omega) hbq2.size ?_)
              intro v' w6 hown' hgrow
              have hbl6 := grown_below (below_drewN hbq2 n5) (hq2.drewN n5) hgrow hbq2.size
              clear hgrow hq2 hbq2
              go_wp2_with fail
              go_roundw
              case rel => exact ⟨k + 1, by omega, by go_num, by rw [HN.out.2], by rw [HN.out.1, ← HD1.out, HQ2.out]; unfold OwnB; simpa using hown', hbl6⟩
              case measure => simp [intOf]; omega
            · obtain rfl : t = 0 := by omega
              by_cases hqp : 0 < (enc Q).length
              · skip
                have HQ2 : Hid (enc (Q * 256 + 0) = enc Q ++ [UInt8.ofNat 0]) := Lib.hid (by rw [HQE.out, if_neg]; rintro ⟨h1, h2⟩; subst h1; simp [enc_zero] at hqp)
                go_wp2_with fail
                refine (HL.out _).mono ?_
                rintro e w5 ⟨rfl, n5, rfl⟩
                go_wp2_with (at_builtin; refine append1 (wr.drewN n5) rfl _ _ 149 rfl w.heap.size 5 .u8 1 info_u8 Try.underlying149 _ ((enc Q).map UInt8.toNat) (hq2.drewN n5) rfl _ _ (UInt8.ofNat 0).toNat HTW.out.symm rfl hl2 (by omega) hbq2.size ?_)
                intro v' w6 hown' hgrow
                have hbl6 := grown_below (below_drewN hbq2 n5) (hq2.drewN n5) hgrow hbq2.size
                clear hgrow hq2 hbq2
                go_wp2_with fail
                go_roundw
                case rel => exact ⟨k + 1, by omega, by go_num, by rw [HN.out.2], by rw [HN.out.1, ← HD1.out, HQ2.out]; unfold OwnB; simpa using hown', hbl6⟩
                case measure => simp [intOf]; omega
              · have hq0 : Q = 0 := by
                  apply Decidable.byContradiction
                  intro h
                  have := List.length_pos_iff.2 (enc_ne_nil Q (by omega))
                  omega
                have HQ0 := Lib.hid hq0
                clear hq0
                go_wp2_with fail
                refine (HL.out _).mono ?_
                rintro e w5 ⟨rfl, n5, rfl⟩
                go_wp2_with fail
                go_roundw
                case rel => exact ⟨k + 1, by omega, by go_num, by rw [HN.out.2], by rw [HN.out.1, ← HD1.out, HQE.out, if_pos ⟨HQ0.out, trivial⟩]; have h := hq2.drewN n5; rw [HQ0.out, enc_zero] at h; rw [HQ0.out] ; exact h, below_drewN hbq2 n5⟩
                case measure => simp [intOf]; omega
          · rw [decide_eq_false hlt] at hl
            have HL := Lib.hid hl
            have ht2 : (t + 1) * nv b ≤ R * 256 + c := by rw [Nat.add_mul]; omega
            have hmin := fun w => minus_any (encS (R * 256 + c - t * nv b)) b w (by omega) (size_le_of hm1 n2 (by rw [nv_encS]; omega)) (by rw [nv_encS]; omega)
            rw [nv_encS, show R * 256 + c - t * nv b - nv b = R * 256 + c - (t + 1) * nv b by rw [Nat.add_mul]; omega] at hmin
            have HM := Lib.hid hmin
            have HT2 := Lib.hid ht2
            have htb : (t : Int) < 9223372036854775800 := by
              have h1 : t < 65536 := by
                have : R < nv b := HRL.out
                have h2 : t * nv b ≤ R * 256 + c := ht
                have h3 : R * 256 + c < 256 * nv b := by have := HC.out; omega
                have h4 : t < 256 := by
                  apply Decidable.byContradiction
                  intro hc
                  have := Nat.mul_le_mul_right (nv b) (show 256 ≤ t by omega)
                  omega
                omega
              omega
            have HTR : Hid (t < R * 256 + c) := Lib.hid (by
              have h1 := Nat.mul_le_mul_left (t + 1) hB
              omega)
            clear hl hlt hmin hs1 hm1 ht ht2 htR
            go_wp2_with fail
            refine (HL.out _).mono ?_
            rintro e w5 ⟨rfl, n5, rfl⟩
            go_wp2_with fail
            refine (HM.out _).mono ?_
            rintro e w6 ⟨rfl, hb6⟩
            go_wp2_with fail
            go_roundw
            case rel => exact ⟨t + 1, by go_num, rfl, HT2.out, hbq.trans ((below_drewN (Below.refl _ _) n5).trans (hb6.mono hbq.size))⟩
            case measure => have := HTR.out; simp [intOf]; omega
    · obtain rfl : k = a.size := by omega
      have e1 : val (a.data.toList.take a.size) = nv a := by
        rw [List.take_of_length_le (by rw [sdata_length]; omega)]
        rfl
      rw [e1] at hq ⊢
      have hcv := fun d hd => OwnN.str (P := Try.prog) hq 149 d Try.underlying149 Try.underlying5 hd
      obtain ⟨ob, cb, hv, hcb, hcbm⟩ := hq.shp
      rw [List.length_map] at hv hcb
      subst hv
      clear e1
      go_wp2_with fail
      go_ret2
      exact ⟨rfl, hbl⟩

end Go.Proofs.Ytmcejefeloljiaa

/-
  Facts about numbers and texts.
-/
namespace Go.Proofs.Ytmcejefeloljiaa
open Go.RowKit Nm

theorem encS0_eq : encS 0 = ⟨#[]⟩ := by rw [← bE_encS]; rfl
theorem encS0_empty : (encS 0).toList.isEmpty = true := by rw [encS0_eq]; decide +kernel
theorem chk_way {a b : ByteArray} (h : chkN [a, b] ≠ 0) :
    (chkN [a, b] = 2 ∨ chkN [a, b] = 60) ∧ ((chkN [a] = 2 ∨ chkN [a] = 60) ∨ (chkN [a] = 0 ∧ (chkN [b] = 2 ∨ chkN [b] = 60))) := by
  simp only [chkN, List.all_cons, List.all_nil, Bool.and_true] at *
  generalize isN a = x at *
  generalize isN b = y at *
  generalize decide (a.size ≤ 256) = u at *
  generalize decide (b.size ≤ 256) = v at *
  cases x <;> cases y <;> cases u <;> cases v <;> revert h <;> decide
theorem size_bE {b : ByteArray} (h : b.size = 0) : b = bE := by
  have h' : b.data = #[] := Array.eq_empty_of_size_eq_zero h
  show b = ⟨#[]⟩
  rw [← h']
theorem size_ne {b : ByteArray} (h : ¬ b.size = 0) : ¬ b.toList = [] := by
  intro hc
  have := isEmpty_false (s := b) (by omega)
  rw [hc] at this
  cases this
theorem bE_nil : bE.toList = [] := by decide +kernel
theorem enc0_nil : (encS 0).toList = [] := bE_nil
theorem mod_nil {n : Nat} (h : n = 0) : (encS n).toList = [] := by rw [h]; exact enc0_nil
theorem mod_ne {n : Nat} (h : ¬ n = 0) : ¬ (encS n).toList = [] := by
  apply size_ne
  intro hc
  apply h
  have := nv_encS n
  rw [size_bE hc] at this
  rw [← this]
  decide +kernel
theorem chk_bad {a : ByteArray} (h : ¬ chkN [a] = 0) : chkN [a] = 2 ∨ chkN [a] = 60 := by
  simp only [chkN, List.all_cons, List.all_nil, Bool.and_true] at *
  generalize isN a = x at *
  generalize decide (a.size ≤ 256) = u at *
  cases x <;> cases u <;> revert h <;> decide
theorem pos_ne {n : Nat} (h : 0 < n) : ¬ (encS n).toList = [] := mod_ne (by omega)
theorem sm60 {n : Nat} (h : (encS n).size ≤ 60) : Sm n := by
  rw [size_encS] at h
  show (enc n).length ≤ 256
  omega
theorem gcd_len {A B k : Nat} (ha : (encS A).size ≤ k) (hb : (encS B).size ≤ k) : (encS (Nat.gcd A B)).size ≤ k := by
  rw [size_encS] at *
  by_cases h : 0 < A
  · exact Nat.le_trans (enc_len_mono (Nat.gcd_le_left B h)) ha
  · obtain rfl : A = 0 := by omega
    rw [Nat.gcd_zero_left]
    exact hb
theorem mul_len {A B : Nat} (ha : (encS A).size ≤ 60) (hb : (encS B).size ≤ 60) : Sm (A * B) := by
  rw [size_encS] at *
  have := enc_len_mul A B
  show (enc (A * B)).length ≤ 256
  omega
theorem cmp_neg {m n : Nat} (h : m < n) : cmpN m n < 0 := by rw [cmpN_lt h]; decide
theorem cmp_pos {m n : Nat} (h : n ≤ m) : 0 ≤ cmpN m n := by
  unfold cmpN
  split
  · omega
  · split <;> omega
theorem add_big {m n : Nat} (h : ¬ Sm (m + n)) : 255 ≤ (encS m).size ∨ ((encS m).size < 255 ∧ 255 ≤ (encS n).size) := by
  rw [size_encS, size_encS]
  apply Decidable.byContradiction
  intro hc
  exact h (enc_len_add m n 255 (by omega) (by omega))
theorem mul_big {m n : Nat} (h : ¬ Sm (m * n)) : 256 < (encS m).size + (encS n).size := by
  rw [size_encS, size_encS]
  apply Decidable.byContradiction
  intro hc
  exact h (Nat.le_trans (enc_len_mul m n) (by omega))
theorem pos_ie {n : Nat} (h : 0 < n) : (encS n).toList.isEmpty = false := by
  have := pos_ne h
  cases hc : (encS n).toList.isEmpty
  · rfl
  · exact absurd (List.isEmpty_iff.1 hc) this
theorem wrap_big {m n : Nat} (h : 256 < m + n) (hm : m ≤ 256) (hn : n ≤ 256) : decide ((256 : Int) < wrap64 (↑m + ↑n)) = true := by
  rw [decide_eq_true_iff]
  have e : wrap64 ((m : Int) + n) = m + n := by unfold wrap64; omega
  rw [e]
  omega
theorem int_div_nat (n m : Nat) : Int.tdiv ↑n ↑m = ((n / m : Nat) : Int) := (Int.ofNat_tdiv n m).symm
theorem int_mod_nat (n m : Nat) : Int.tmod ↑n ↑m = ((n % m : Nat) : Int) := (Int.ofNat_tmod n m).symm

end Go.Proofs.Ytmcejefeloljiaa

/-
  The walks of the reference for naturals: Div, Gcd, Few.
-/
namespace Go.Proofs.Ytmcejefeloljiaa
open Go.RowKit Nm

set_option maxHeartbeats 1000000 in
theorem rDiv_any (a b : ByteArray) (w : World) :
    Calls Try.prog 55 #[.string a, .string b] w fun e w' => e = .returned (.tuple #[.string (divF a b).1, .string (divF a b).2.1, .int .i64 (divF a b).2.2]) ∧ Below w.heap.size w w' := by
  have h_ := fun w => both_any a b w
  by_cases h : chkN [a, b] = 0
  · obtain ⟨n1, n2, s1, s2⟩ := chk2_zero h
    rw [h] at h_
    have HB := Lib.hid h_
    by_cases h0 : 0 < nv b
    · have E : Hid (divF a b = (encS (nv a / nv b), encS (nv a % nv b), 0)) := Lib.hid (by rw [divF, if_pos h, if_neg (by omega)])
      have HM := Lib.hid (fun w => divide_ref a b w n2 s1 s2 h0)
      have hn : b.toList.isEmpty = false := by
        have := pos_ie h0
        rw [encS_nv b n2] at this
        exact this
      clear h_ h h0
      go_enter Try.func55, Try.ntmps55
      go_wp2_with fail
      refine (HB.out _).mono ?_
      rintro e w1 ⟨rfl, rfl⟩
      go_wp2_with fail
      refine (HM.out _).mono ?_
      rintro e w2 ⟨rfl, hb2⟩
      go_wp2_with fail
      go_ret3
      exact ⟨by rw [E.out]; rfl, hb2⟩
    · have h1 : nv b = 0 := by omega
      have E : Hid (divF a b = (bE, bE, 71)) := Lib.hid (by rw [divF, if_pos h, if_pos h1])
      have hn : b.toList.isEmpty = true := by
        have := encS0_empty
        rw [← h1, encS_nv b n2] at this
        exact this
      clear h_ h h0 h1
      go_enter Try.func55, Try.ntmps55
      go_wp2_with fail
      refine (HB.out _).mono ?_
      rintro e w1 ⟨rfl, rfl⟩
      go_wp2_with fail
      go_ret3
      exact ⟨by rw [E.out]; rfl, Below.refl _ _⟩
  · have E : Hid (divF a b = (bE, bE, chkN [a, b])) := Lib.hid (if_neg h)
    have HB := Lib.hid h_
    have h2 : (chkN [a, b] != 0) = true := by simpa using h
    clear h_ h
    go_enter Try.func55, Try.ntmps55
    go_wp2_with fail
    refine (HB.out _).mono ?_
    rintro e w1 ⟨rfl, rfl⟩
    go_wp2_with fail
    go_ret3
    exact ⟨by rw [E.out]; rfl, Below.refl _ _⟩

/-- the number of a text -/
def numOf : Value → Nat
  | .string s => nv s
  | _ => 0

set_option maxHeartbeats 1000000 in
theorem rGcd_any (a b : ByteArray) (w : World) :
    Calls Try.prog 62 #[.string a, .string b] w fun e w' => e = .returned (.tuple #[.string (gcdF a b).1, .int .i64 (gcdF a b).2]) ∧ Below w.heap.size w w' := by
  have h_ := fun w => both_any a b w
  by_cases h : chkN [a, b] = 0
  · obtain ⟨n1, n2, s1, s2⟩ := chk2_zero h
    rw [h] at h_
    have HB := Lib.hid h_
    have E : Hid (gcdF a b = (encS (Nat.gcd (nv a) (nv b)), 0)) := Lib.hid (if_pos h)
    obtain ⟨ea, sA⟩ := natE n1 s1
    obtain ⟨eb, sB⟩ := natE n2 s2
    have EA := Lib.hid ea
    have EB := Lib.hid eb
    clear h_ h ea eb n1 n2 s1 s2
    go_enter Try.func62, Try.ntmps62
    go_wp2_with fail
    refine (HB.out _).mono ?_
    rintro e w1 ⟨rfl, rfl⟩
    go_wp2_with fail
    go_loopw [0, 1] (fun x y wr => ∃ A B : Nat, x = .string (encS A) ∧ y = .string (encS B) ∧ Sm A ∧ Sm B ∧ Nat.gcd A B = Nat.gcd (nv a) (nv b) ∧ Below w.heap.size w wr) (fun _ y _ => numOf y)
    case atStart => exact ⟨nv a, nv b, by rw [← EA.out], by rw [← EB.out], sA, sB, rfl, Below.refl _ _⟩
    case round =>
      obtain ⟨A, B, rfl, rfl, hA, hB, hg, hbl⟩ := hrel
      have HG := Lib.hid hg
      clear hg
      by_cases h0 : 0 < B
      · have hn := pos_ie h0
        have hd := fun w => divide_ref (encS A) (encS B) w (isN_encS B) hA.size hB.size (by rw [nv_encS]; exact h0)
        simp only [nv_encS] at hd
        have HD := Lib.hid hd
        clear hd
        go_wp2_with fail
        refine (HD.out _).mono ?_
        rintro e w2 ⟨rfl, hb2⟩
        go_wp2_with fail
        go_roundw
        case rel => exact ⟨B, A % B, rfl, rfl, hB, hA.mono (Nat.mod_le _ _), by rw [← HG.out, Nat.gcd_comm B, ← Nat.gcd_rec, Nat.gcd_comm], hbl.trans (hb2.mono hbl.size)⟩
        case measure =>
          show nv (encS (A % B)) < nv (encS B)
          rw [nv_encS, nv_encS]
          exact Nat.mod_lt _ h0
      · obtain rfl : B = 0 := by omega
        have hn := encS0_empty
        go_wp2_with fail
        go_ret2
        exact ⟨by rw [E.out, ← HG.out, Nat.gcd_zero_right]; rfl, hbl⟩
  · have E : Hid (gcdF a b = (bE, chkN [a, b])) := Lib.hid (if_neg h)
    have HB := Lib.hid h_
    have h2 : (chkN [a, b] != 0) = true := by simpa using h
    clear h_ h
    go_enter Try.func62, Try.ntmps62
    go_wp2_with fail
    refine (HB.out _).mono ?_
    rintro e w1 ⟨rfl, rfl⟩
    go_wp2_with fail
    go_ret2
    exact ⟨by rw [E.out]; rfl, Below.refl _ _⟩

end Go.Proofs.Ytmcejefeloljiaa

/-
  The contracts of the reference of chapter 06, as a table for the symbolic executor.
-/
namespace Go.Proofs.Ytmcejefeloljiaa
set_option linter.unusedVariables false
open Go.RowKit Nm Go.SX

def refCon : ECon := fun f =>
  match f with
  | 56 => some (two addF)
  | 64 => some (two mulF)
  | 66 => some (two subF)
  | 62 => some (two gcdF)
  | 65 => some fun vs => match vs with
    | [.string a, .string b] => .need (szB a && szB b) (.ok (.ret (.tup [.val (.int .i64 (cmpF a b).1), .val (.int .i64 (cmpF a b).2)])))
    | _ => .no
  | 55 => some fun vs => match vs with
    | [.string a, .string b] => .need (szB a && szB b) (.ok (.ret (.tup [.val (.string (divF a b).1), .val (.string (divF a b).2.1), .val (.int .i64 (divF a b).2.2)])))
    | _ => .no
  | 61 => some fun vs => match vs with
    | [.string a] => .need (szB a) (.ok (.ret (.val (.int .i64 (chkN [a])))))
    | _ => .no
  | 104 => some fun vs => match vs with
    | [.int .i64 n] => .need (inI n) (.ok (.ret (.tup [.val (.string (ofF n).1), .val (.int .i64 (ofF n).2)])))
    | _ => .no
  | 117 => some fun vs => match vs with
    | [.string a] => .need (szB a) (.ok (.ret (.tup [.val (.int .i64 (intF a).1), .val (.bool (intF a).2)])))
    | _ => .no
  | f => apiCon f
theorem refCon_ok : EConOk Try.prog refCon := by
  intro f h hf
  unfold refCon at hf
  split at hf
  · cases hf; exact ⟨⟨_, Try.func56, rfl⟩, two_ok fun a b w ha hb => rAdd_any a b w⟩
  · cases hf; exact ⟨⟨_, Try.func64, rfl⟩, two_ok fun a b w ha hb => rMul_any a b w⟩
  · cases hf; exact ⟨⟨_, Try.func66, rfl⟩, two_ok fun a b w ha hb => rSub_any a b w⟩
  · cases hf; exact ⟨⟨_, Try.func62, rfl⟩, two_ok fun a b w ha hb => rGcd_any a b w⟩
  · cases hf
    refine ⟨⟨_, Try.func65, rfl⟩, fun vs e he => ?_⟩
    simp only at he
    split at he
    · obtain ⟨h1, h2⟩ := R3.need_some he
      cases h2
      rw [Bool.and_eq_true, szB_iff, szB_iff] at h1
      exact ⟨_, rfl, fun w => (rCompare_any _ _ w h1.1 h1.2).mono fun e' w' ⟨h3, k, h4⟩ => ⟨h3, h4 ▸ below_drewN (Below.refl _ _) k⟩⟩
    · cases he
  · cases hf
    refine ⟨⟨_, Try.func55, rfl⟩, fun vs e he => ?_⟩
    simp only at he
    split at he
    · obtain ⟨h1, h2⟩ := R3.need_some he
      cases h2
      exact ⟨_, rfl, fun w => rDiv_any _ _ w⟩
    · cases he
  · cases hf
    refine ⟨⟨_, Try.func61, rfl⟩, fun vs e he => ?_⟩
    simp only at he
    split at he
    · obtain ⟨h1, h2⟩ := R3.need_some he
      cases h2
      exact ⟨_, rfl, fun w => (rCheck_any _ w (szB_iff.1 h1)).mono fun e' w' h => ⟨h.1, by rw [← h.2]; exact Below.refl _ _⟩⟩
    · cases he
  · cases hf
    refine ⟨⟨_, Try.func104, rfl⟩, fun vs e he => ?_⟩
    simp only at he
    split at he
    · obtain ⟨h1, h2⟩ := R3.need_some he
      cases h2
      unfold inI at h1
      rw [Bool.and_eq_true] at h1
      exact ⟨_, rfl, fun w => rOf_any _ w (of_decide_eq_true h1.1) (of_decide_eq_true h1.2)⟩
    · cases he
  · cases hf
    refine ⟨⟨_, Try.func117, rfl⟩, fun vs e he => ?_⟩
    simp only at he
    split at he
    · obtain ⟨h1, h2⟩ := R3.need_some he
      cases h2
      exact ⟨_, rfl, fun w => (rInt_any _ w (szB_iff.1 h1)).mono fun e' w' h => ⟨h.1, by rw [← h.2]; exact Below.refl _ _⟩⟩
    · cases he
  · exact apiCon_ok _ _ hf

end Go.Proofs.Ytmcejefeloljiaa

/-
  What the symbolic executor shows of the inner functions of the reference for ratios.
-/
namespace Go.Proofs.Ytmcejefeloljiaa
open Go.RowKit Nm Go.SX

set_option maxRecDepth 100000 in
theorem T_rcheck (n : Bool) (a b : ByteArray) : sxEnd Try.prog Rd.no refCon.p 40 23 [.agg #[.bool n, .string a, .string b]] =
    bif szB a then
      bif chkN [a] != 0 then some (Ending.returned (Value.int IntKind.i64 70))
      else
        bif szB b then
          bif chkN [b] != 0 then some (Ending.returned (Value.int IntKind.i64 70))
          else
            bif b.toList == (bs []).toList then some (Ending.returned (Value.int IntKind.i64 70))
            else
              bif n then
                bif a.toList == (bs []).toList then some (Ending.returned (Value.int IntKind.i64 70))
                else
                  bif szB a && szB b then
                    bif !(gcdF a b).fst.toList == (bs [1]).toList then
                      some (Ending.returned (Value.int IntKind.i64 70))
                    else some (Ending.returned (Value.int IntKind.i64 0))
                  else none
              else
                bif szB a && szB b then
                  bif !(gcdF a b).fst.toList == (bs [1]).toList then
                    some (Ending.returned (Value.int IntKind.i64 70))
                  else some (Ending.returned (Value.int IntKind.i64 0))
                else none
        else none
    else none := by kernel_rfl
set_option maxRecDepth 100000 in
theorem T_rlow (n : Bool) (a b : ByteArray) : sxEnd Try.prog Rd.no refCon.p 40 51 [.bool n, .string a, .string b] =
    bif a.toList == (bs []).toList then
      some
        (Ending.returned
          (Value.agg { toList := [Value.bool false, Value.string (bs []), Value.string (bs [1])] }))
    else
      bif szB a && szB b then
        bif szB a && szB (gcdF a b).fst then
          bif szB b && szB (gcdF a b).fst then
            some
              (Ending.returned
                (Value.agg
                  {
                    toList :=
                      [Value.bool n, Value.string (divF a (gcdF a b).fst).fst, Value.string (divF b (gcdF a b).fst).fst] }))
          else none
        else none
      else none := by kernel_rfl
set_option maxRecDepth 100000 in
theorem T_ramount (n : Int) : sxEnd Try.prog Rd.no refCon.p 40 52 [.int .i64 n] =
    bif decide (n ≥ 0) then bif inI n then some (Ending.returned (Value.string (ofF n).fst)) else none
    else
      bif inI (IntKind.i64.wrap (0 - IntKind.i64.wrap (n + 1))) then
        bif szB (ofF (IntKind.i64.wrap (0 - IntKind.i64.wrap (n + 1)))).fst && szB (bs [1]) then
          some
            (Ending.returned
              (Value.string (addF (ofF (IntKind.i64.wrap (0 - IntKind.i64.wrap (n + 1)))).fst (bs [1])).fst))
        else none
      else none := by kernel_rfl

end Go.Proofs.Ytmcejefeloljiaa

/-
  The reference for ratios: its inner functions, and their table.
-/
namespace Go.Proofs.Ytmcejefeloljiaa
set_option linter.unusedSimpArgs false
set_option linter.unusedVariables false
open Go.RowKit Nm Go.SX

/-- a ratio in lowest terms -/
def lowS (neg : Bool) (n d : ByteArray) : Rt := if isE n then ⟨false, bs [], bs [1]⟩ else ⟨neg, (divF n (gcdF n d).1).1, (divF d (gcdF n d).1).1⟩
theorem rcheck_end (n : Bool) (a b : ByteArray) (ha : szB a = true) (hb : szB b = true) : sxEnd Try.prog Rd.no refCon.p 40 23 [.agg #[.bool n, .string a, .string b]] = some (.returned (.int .i64 (checkR ⟨n, a, b⟩))) := by
  rw [T_rcheck, ha, hb]
  unfold checkR badR
  have e1 : (⟨#[1]⟩ : ByteArray) = bs [1] := rfl
  simp only [eqL, isE_bs, cond_true, Bool.and_self, e1, dne]
  generalize (chkN [a] != 0) = x
  generalize (chkN [b] != 0) = y
  generalize hp : decide (b = bs []) = p
  generalize hq : decide (a = bs []) = q
  by_cases hg : (gcdF a b).1 = bs [1] <;> cases x <;> cases y <;> cases p <;> cases n <;> cases q <;> simp [hg]
theorem rlow_end (n : Bool) (a b : ByteArray) (ha : szB a = true) (hb : szB b = true) : sxEnd Try.prog Rd.no refCon.p 40 51 [.bool n, .string a, .string b] = some (.returned (rtV (lowS n a b))) := by
  rw [T_rlow, ha, hb, sz256 (gcdF_size a b)]
  unfold lowS
  simp only [eqL, isE_bs]
  cases decide (a = bs []) <;> rfl
theorem ramount_end (n : Int) (h : inI n = true) : sxEnd Try.prog Rd.no refCon.p 40 52 [.int .i64 n] = some (.returned (.string (encS n.natAbs))) := by
  have h0 := h
  unfold inI at h0
  rw [Bool.and_eq_true, decide_eq_true_eq, decide_eq_true_eq] at h0
  rw [T_ramount, h]
  by_cases hn : 0 ≤ n
  · have e : ofF n = (encS n.toNat, 0) := if_neg (by omega)
    have e2 : n.toNat = n.natAbs := by omega
    simp [e, hn, e2]
  · have w1 : IntKind.i64.wrap (n + 1) = n + 1 := wrapI (by omega) (by omega)
    have w2 : IntKind.i64.wrap (-(n + 1)) = -(n + 1) := wrapI (by omega) (by omega)
    have e : ofF (-(n + 1)) = (encS (-(n + 1)).toNat, 0) := if_neg (by omega)
    have hi : inI (-(n + 1)) = true := by unfold inI; rw [Bool.and_eq_true, decide_eq_true_eq, decide_eq_true_eq]; omega
    have hlt : (-(n + 1)).toNat ≤ 18446744073709551616 := by omega
    have hz : (0 : Int) - (n + 1) = -(n + 1) := by omega
    have hs := sz256 (enc_sm hlt)
    have h1 : bs [1] = encS 1 := by decide +kernel
    have hadd : addF (encS (-(n + 1)).toNat) (bs [1]) = (encS n.natAbs, 0) := by
      rw [h1]
      have hc : chkN [encS (-(n + 1)).toNat, encS 1] = 0 := chkE2 (by rw [← size_encS'] ; exact enc_sm hlt) (by rw [← size_encS']; decide +kernel)
      unfold addF
      rw [if_pos hc, nv_encS, nv_encS]
      unfold shortN
      rw [show (-(n + 1)).toNat + 1 = n.natAbs by omega, if_pos (enc_sm (by omega))]
    simp only [w1, hz, w2, e, hi, hs, hadd]
    simp [hn, show szB (bs [1]) = true by decide +kernel]
def r7aCon : ECon := fun f =>
  match f with
  | 23 => some fun vs => match vs with
    | [.agg ⟨[.bool n, .string a, .string b]⟩] => .need (szB a && szB b) (.ok (.ret (.val (.int .i64 (checkR ⟨n, a, b⟩)))))
    | _ => .no
  | 51 => some fun vs => match vs with
    | [.bool n, .string a, .string b] => .need (szB a && szB b) (.ok (.ret (.val (.agg #[.bool (lowS n a b).neg, .string (lowS n a b).n, .string (lowS n a b).d]))))
    | _ => .no
  | 52 => some fun vs => match vs with
    | [.int .i64 n] => .need (inI n) (.ok (.ret (.val (.string (encS n.natAbs)))))
    | _ => .no
  | f => refCon f
theorem r7aCon_ok : EConOk Try.prog r7aCon := by
  have pl : ∀ {f : FuncId} {vs : List Value} {e0 : Ending}, sxEnd Try.prog Rd.no refCon.p 40 f vs = some e0 → Plain Try.prog f vs e0 := fun h => plain_sound pOk (ECon.ok refCon_ok) 40 h
  intro f h hf
  unfold r7aCon at hf
  split at hf
  · cases hf
    refine ⟨⟨_, Try.func23, rfl⟩, fun vs e he => ?_⟩
    simp only at he
    split at he
    · obtain ⟨h1, h2⟩ := R3.need_some he
      cases h2
      rw [Bool.and_eq_true] at h1
      exact ⟨_, rfl, pl (rcheck_end _ _ _ h1.1 h1.2)⟩
    · cases he
  · cases hf
    refine ⟨⟨_, Try.func51, rfl⟩, fun vs e he => ?_⟩
    simp only at he
    split at he
    · obtain ⟨h1, h2⟩ := R3.need_some he
      cases h2
      rw [Bool.and_eq_true] at h1
      exact ⟨_, rfl, pl (rlow_end _ _ _ h1.1 h1.2)⟩
    · cases he
  · cases hf
    refine ⟨⟨_, Try.func52, rfl⟩, fun vs e he => ?_⟩
    simp only at he
    split at he
    · obtain ⟨h1, h2⟩ := R3.need_some he
      cases h2
      exact ⟨_, rfl, pl (ramount_end _ h1)⟩
    · cases he
  · exact refCon_ok _ _ hf

end Go.Proofs.Ytmcejefeloljiaa

/-
  What the symbolic executor shows of the reference for ratios.
-/
namespace Go.Proofs.Ytmcejefeloljiaa
open Go.RowKit Nm Go.SX

set_option maxRecDepth 100000 in
theorem T_radd (n m : Bool) (a b c d : ByteArray) : sxEnd Try.prog Rd.no r7aCon.p 40 25 [.agg #[.bool n, .string a, .string b], .agg #[.bool m, .string c, .string d]] =
    bif szB a && szB b then
      bif checkR { neg := n, n := a, d := b } != 0 then
        some
          (Ending.returned
            (Value.tuple
              {
                toList :=
                  [Value.agg { toList := [Value.bool false, Value.string (bs []), Value.string (bs [])] },
                    Value.int IntKind.i64 70] }))
      else
        bif szB c && szB d then
          bif checkR { neg := m, n := c, d := d } != 0 then
            some
              (Ending.returned
                (Value.tuple
                  {
                    toList :=
                      [Value.agg
                          { toList := [Value.bool false, Value.string (bs []), Value.string (bs [])] },
                        Value.int IntKind.i64 70] }))
          else
            bif szB a && szB d then
              bif szB c && szB b then
                bif szB b && szB d then
                  bif (mulF a d).snd != 0 then
                    some
                      (Ending.returned
                        (Value.tuple
                          {
                            toList :=
                              [Value.agg
                                  {
                                    toList :=
                                      [Value.bool false, Value.string (bs []), Value.string (bs [])] },
                                Value.int IntKind.i64 2] }))
                  else
                    bif (mulF c b).snd != 0 then
                      some
                        (Ending.returned
                          (Value.tuple
                            {
                              toList :=
                                [Value.agg
                                    {
                                      toList :=
                                        [Value.bool false, Value.string (bs []), Value.string (bs [])] },
                                  Value.int IntKind.i64 2] }))
                    else
                      bif (mulF b d).snd != 0 then
                        some
                          (Ending.returned
                            (Value.tuple
                              {
                                toList :=
                                  [Value.agg
                                      {
                                        toList :=
                                          [Value.bool false, Value.string (bs []), Value.string (bs [])] },
                                    Value.int IntKind.i64 2] }))
                      else
                        bif n == m then
                          bif szB (mulF a d).fst && szB (mulF c b).fst then
                            bif (addF (mulF a d).fst (mulF c b).fst).snd != 0 then
                              some
                                (Ending.returned
                                  (Value.tuple
                                    {
                                      toList :=
                                        [Value.agg
                                            {
                                              toList :=
                                                [Value.bool false, Value.string (bs []),
                                                  Value.string (bs [])] },
                                          Value.int IntKind.i64 2] }))
                            else
                              bif szB (addF (mulF a d).fst (mulF c b).fst).fst && szB (mulF b d).fst then
                                some
                                  (Ending.returned
                                    (Value.tuple
                                      {
                                        toList :=
                                          [Value.agg
                                              {
                                                toList :=
                                                  [Value.bool
                                                      (lowS n (addF (mulF a d).fst (mulF c b).fst).fst (mulF b d).fst).neg,
                                                    Value.string
                                                      (lowS n (addF (mulF a d).fst (mulF c b).fst).fst (mulF b d).fst).n,
                                                    Value.string
                                                      (lowS n (addF (mulF a d).fst (mulF c b).fst).fst (mulF b d).fst).d] },
                                            Value.int IntKind.i64 0] }))
                              else none
                          else none
                        else
                          bif szB (mulF a d).fst && szB (mulF c b).fst then
                            bif decide ((cmpF (mulF a d).fst (mulF c b).fst).fst ≥ 0) then
                              bif szB (mulF a d).fst && szB (mulF c b).fst then
                                bif szB (subF (mulF a d).fst (mulF c b).fst).fst && szB (mulF b d).fst then
                                  some
                                    (Ending.returned
                                      (Value.tuple
                                        {
                                          toList :=
                                            [Value.agg
                                                {
                                                  toList :=
                                                    [Value.bool
                                                        (lowS n (subF (mulF a d).fst (mulF c b).fst).fst
                                                            (mulF b d).fst).neg,
                                                      Value.string
                                                        (lowS n (subF (mulF a d).fst (mulF c b).fst).fst (mulF b d).fst).n,
                                                      Value.string
                                                        (lowS n (subF (mulF a d).fst (mulF c b).fst).fst
                                                            (mulF b d).fst).d] },
                                              Value.int IntKind.i64 0] }))
                                else none
                              else none
                            else
                              bif szB (mulF c b).fst && szB (mulF a d).fst then
                                bif szB (subF (mulF c b).fst (mulF a d).fst).fst && szB (mulF b d).fst then
                                  some
                                    (Ending.returned
                                      (Value.tuple
                                        {
                                          toList :=
                                            [Value.agg
                                                {
                                                  toList :=
                                                    [Value.bool
                                                        (lowS m (subF (mulF c b).fst (mulF a d).fst).fst
                                                            (mulF b d).fst).neg,
                                                      Value.string
                                                        (lowS m (subF (mulF c b).fst (mulF a d).fst).fst (mulF b d).fst).n,
                                                      Value.string
                                                        (lowS m (subF (mulF c b).fst (mulF a d).fst).fst
                                                            (mulF b d).fst).d] },
                                              Value.int IntKind.i64 0] }))
                                else none
                              else none
                          else none
                else none
              else none
            else none
        else none
    else none := by kernel_rfl
set_option maxRecDepth 100000 in
theorem T_rmul (n m : Bool) (a b c d : ByteArray) : sxEnd Try.prog Rd.no r7aCon.p 40 29 [.agg #[.bool n, .string a, .string b], .agg #[.bool m, .string c, .string d]] =
    bif szB a && szB b then
      bif checkR { neg := n, n := a, d := b } != 0 then
        some
          (Ending.returned
            (Value.tuple
              {
                toList :=
                  [Value.agg { toList := [Value.bool false, Value.string (bs []), Value.string (bs [])] },
                    Value.int IntKind.i64 70] }))
      else
        bif szB c && szB d then
          bif checkR { neg := m, n := c, d := d } != 0 then
            some
              (Ending.returned
                (Value.tuple
                  {
                    toList :=
                      [Value.agg
                          { toList := [Value.bool false, Value.string (bs []), Value.string (bs [])] },
                        Value.int IntKind.i64 70] }))
          else
            bif szB a && szB c then
              bif szB b && szB d then
                bif (mulF a c).snd != 0 then
                  some
                    (Ending.returned
                      (Value.tuple
                        {
                          toList :=
                            [Value.agg
                                {
                                  toList :=
                                    [Value.bool false, Value.string (bs []), Value.string (bs [])] },
                              Value.int IntKind.i64 2] }))
                else
                  bif (mulF b d).snd != 0 then
                    some
                      (Ending.returned
                        (Value.tuple
                          {
                            toList :=
                              [Value.agg
                                  {
                                    toList :=
                                      [Value.bool false, Value.string (bs []), Value.string (bs [])] },
                                Value.int IntKind.i64 2] }))
                  else
                    bif szB (mulF a c).fst && szB (mulF b d).fst then
                      some
                        (Ending.returned
                          (Value.tuple
                            {
                              toList :=
                                [Value.agg
                                    {
                                      toList :=
                                        [Value.bool (lowS (!n == m) (mulF a c).fst (mulF b d).fst).neg,
                                          Value.string (lowS (!n == m) (mulF a c).fst (mulF b d).fst).n,
                                          Value.string (lowS (!n == m) (mulF a c).fst (mulF b d).fst).d] },
                                  Value.int IntKind.i64 0] }))
                    else none
              else none
            else none
        else none
    else none := by kernel_rfl
set_option maxRecDepth 100000 in
theorem T_rdiv (n m : Bool) (a b c d : ByteArray) : sxEnd Try.prog Rd.no r7aCon.p 40 31 [.agg #[.bool n, .string a, .string b], .agg #[.bool m, .string c, .string d]] =
    bif szB a && szB b then
      bif checkR { neg := n, n := a, d := b } != 0 then
        some
          (Ending.returned
            (Value.tuple
              {
                toList :=
                  [Value.agg { toList := [Value.bool false, Value.string (bs []), Value.string (bs [])] },
                    Value.int IntKind.i64 70] }))
      else
        bif szB c && szB d then
          bif checkR { neg := m, n := c, d := d } != 0 then
            some
              (Ending.returned
                (Value.tuple
                  {
                    toList :=
                      [Value.agg
                          { toList := [Value.bool false, Value.string (bs []), Value.string (bs [])] },
                        Value.int IntKind.i64 70] }))
          else
            bif c.toList == (bs []).toList then
              some
                (Ending.returned
                  (Value.tuple
                    {
                      toList :=
                        [Value.agg
                            { toList := [Value.bool false, Value.string (bs []), Value.string (bs [])] },
                          Value.int IntKind.i64 71] }))
            else
              bif szB a && szB d then
                bif szB b && szB c then
                  bif (mulF a d).snd != 0 then
                    some
                      (Ending.returned
                        (Value.tuple
                          {
                            toList :=
                              [Value.agg
                                  {
                                    toList :=
                                      [Value.bool false, Value.string (bs []), Value.string (bs [])] },
                                Value.int IntKind.i64 2] }))
                  else
                    bif (mulF b c).snd != 0 then
                      some
                        (Ending.returned
                          (Value.tuple
                            {
                              toList :=
                                [Value.agg
                                    {
                                      toList :=
                                        [Value.bool false, Value.string (bs []), Value.string (bs [])] },
                                  Value.int IntKind.i64 2] }))
                    else
                      bif szB (mulF a d).fst && szB (mulF b c).fst then
                        some
                          (Ending.returned
                            (Value.tuple
                              {
                                toList :=
                                  [Value.agg
                                      {
                                        toList :=
                                          [Value.bool (lowS (!n == m) (mulF a d).fst (mulF b c).fst).neg,
                                            Value.string (lowS (!n == m) (mulF a d).fst (mulF b c).fst).n,
                                            Value.string (lowS (!n == m) (mulF a d).fst (mulF b c).fst).d] },
                                    Value.int IntKind.i64 0] }))
                      else none
                else none
              else none
        else none
    else none := by kernel_rfl
set_option maxRecDepth 100000 in
theorem T_rcmp (n m : Bool) (a b c d : ByteArray) : sxEnd Try.prog Rd.no r7aCon.p 40 33 [.agg #[.bool n, .string a, .string b], .agg #[.bool m, .string c, .string d]] =
    bif szB a && szB b then
      bif checkR { neg := n, n := a, d := b } != 0 then
        some (Ending.returned (Value.tuple { toList := [Value.int IntKind.i64 0, Value.int IntKind.i64 70] }))
      else
        bif szB c && szB d then
          bif checkR { neg := m, n := c, d := d } != 0 then
            some (Ending.returned (Value.tuple { toList := [Value.int IntKind.i64 0, Value.int IntKind.i64 70] }))
          else
            bif szB a && szB d then
              bif szB c && szB b then
                bif (mulF a d).snd != 0 then
                  some (Ending.returned (Value.tuple { toList := [Value.int IntKind.i64 0, Value.int IntKind.i64 2] }))
                else
                  bif (mulF c b).snd != 0 then
                    some (Ending.returned (Value.tuple { toList := [Value.int IntKind.i64 0, Value.int IntKind.i64 2] }))
                  else
                    bif !n == m then
                      bif n then
                        some
                          (Ending.returned
                            (Value.tuple { toList := [Value.int IntKind.i64 (-1), Value.int IntKind.i64 0] }))
                      else
                        some
                          (Ending.returned (Value.tuple { toList := [Value.int IntKind.i64 1, Value.int IntKind.i64 0] }))
                    else
                      bif szB (mulF a d).fst && szB (mulF c b).fst then
                        bif n then
                          some
                            (Ending.returned
                              (Value.tuple
                                {
                                  toList :=
                                    [Value.int IntKind.i64
                                        (IntKind.i64.wrap (0 - (cmpF (mulF a d).fst (mulF c b).fst).fst)),
                                      Value.int IntKind.i64 0] }))
                        else
                          some
                            (Ending.returned
                              (Value.tuple
                                {
                                  toList :=
                                    [Value.int IntKind.i64 (cmpF (mulF a d).fst (mulF c b).fst).fst,
                                      Value.int IntKind.i64 0] }))
                      else none
              else none
            else none
        else none
    else none := by kernel_rfl
set_option maxRecDepth 100000 in
theorem T_rfloor (n : Bool) (a b : ByteArray) : sxEnd Try.prog Rd.no r7aCon.p 40 17 [.agg #[.bool n, .string a, .string b]] =
    bif szB a && szB b then
      bif checkR { neg := n, n := a, d := b } != 0 then
        some (Ending.returned (Value.tuple { toList := [Value.int IntKind.i64 0, Value.int IntKind.i64 70] }))
      else
        bif szB a && szB b then
          bif decide ((↑(divF a b).fst.size : Int) > 8) then
            some (Ending.returned (Value.tuple { toList := [Value.int IntKind.i64 0, Value.int IntKind.i64 2] }))
          else
            bif n then
              bif !(divF a b).snd.fst.toList == (bs []).toList then
                bif szB (divF a b).fst && szB (bs [1]) then
                  bif szB (addF (divF a b).fst (bs [1])).fst then
                    bif !(intF (addF (divF a b).fst (bs [1])).fst).snd then
                      some (Ending.returned (Value.tuple { toList := [Value.int IntKind.i64 0, Value.int IntKind.i64 2] }))
                    else
                      bif decide ((intF (addF (divF a b).fst (bs [1])).fst).fst > 4611686018427387904) then
                        some
                          (Ending.returned (Value.tuple { toList := [Value.int IntKind.i64 0, Value.int IntKind.i64 2] }))
                      else
                        bif n then
                          some
                            (Ending.returned
                              (Value.tuple
                                {
                                  toList :=
                                    [Value.int IntKind.i64
                                        (IntKind.i64.wrap (0 - (intF (addF (divF a b).fst (bs [1])).fst).fst)),
                                      Value.int IntKind.i64 0] }))
                        else
                          some
                            (Ending.returned
                              (Value.tuple
                                {
                                  toList :=
                                    [Value.int IntKind.i64 (intF (addF (divF a b).fst (bs [1])).fst).fst,
                                      Value.int IntKind.i64 0] }))
                  else none
                else none
              else
                bif szB (divF a b).fst then
                  bif !(intF (divF a b).fst).snd then
                    some (Ending.returned (Value.tuple { toList := [Value.int IntKind.i64 0, Value.int IntKind.i64 2] }))
                  else
                    bif decide ((intF (divF a b).fst).fst > 4611686018427387904) then
                      some (Ending.returned (Value.tuple { toList := [Value.int IntKind.i64 0, Value.int IntKind.i64 2] }))
                    else
                      bif n then
                        some
                          (Ending.returned
                            (Value.tuple
                              {
                                toList :=
                                  [Value.int IntKind.i64 (IntKind.i64.wrap (0 - (intF (divF a b).fst).fst)),
                                    Value.int IntKind.i64 0] }))
                      else
                        some
                          (Ending.returned
                            (Value.tuple
                              { toList := [Value.int IntKind.i64 (intF (divF a b).fst).fst, Value.int IntKind.i64 0] }))
                else none
            else
              bif szB (divF a b).fst then
                bif !(intF (divF a b).fst).snd then
                  some (Ending.returned (Value.tuple { toList := [Value.int IntKind.i64 0, Value.int IntKind.i64 2] }))
                else
                  bif decide ((intF (divF a b).fst).fst > 4611686018427387904) then
                    some (Ending.returned (Value.tuple { toList := [Value.int IntKind.i64 0, Value.int IntKind.i64 2] }))
                  else
                    bif n then
                      some
                        (Ending.returned
                          (Value.tuple
                            {
                              toList :=
                                [Value.int IntKind.i64 (IntKind.i64.wrap (0 - (intF (divF a b).fst).fst)),
                                  Value.int IntKind.i64 0] }))
                    else
                      some
                        (Ending.returned
                          (Value.tuple
                            { toList := [Value.int IntKind.i64 (intF (divF a b).fst).fst, Value.int IntKind.i64 0] }))
              else none
        else none
    else none := by kernel_rfl
set_option maxRecDepth 100000 in
theorem T_rnew (n d : Int) : sxEnd Try.prog Rd.no r7aCon.p 40 15 [.int .i64 n, .int .i64 d] =
    bif d == 0 then
      some
        (Ending.returned
          (Value.tuple
            {
              toList :=
                [Value.agg { toList := [Value.bool false, Value.string (bs []), Value.string (bs [])] },
                  Value.int IntKind.i64 71] }))
    else
      bif inI n then
        bif inI d then
          bif szB (encS n.natAbs) && szB (encS d.natAbs) then
            some
              (Ending.returned
                (Value.tuple
                  {
                    toList :=
                      [Value.agg
                          {
                            toList :=
                              [Value.bool (lowS (!decide (n < 0) == decide (d < 0)) (encS n.natAbs) (encS d.natAbs)).neg,
                                Value.string (lowS (!decide (n < 0) == decide (d < 0)) (encS n.natAbs) (encS d.natAbs)).n,
                                Value.string
                                  (lowS (!decide (n < 0) == decide (d < 0)) (encS n.natAbs) (encS d.natAbs)).d] },
                        Value.int IntKind.i64 0] }))
          else none
        else none
      else none := by kernel_rfl

end Go.Proofs.Ytmcejefeloljiaa

/-
  Ratios and rational numbers: what the functions of package ratios do to them.
-/
namespace Go.Proofs.Ytmcejefeloljiaa
open Go.RowKit Nm Go.SX

def toR (q : Rat) : Rt := ⟨decide (q.num < 0), encS q.num.natAbs, encS q.den⟩
/-- numbers of at most so many bytes -/
def Bd (q : Rat) (k : Nat) : Prop := (enc q.num.natAbs).length ≤ k ∧ (enc q.den).length ≤ k
theorem toR_inj {p q : Rat} (h : toR p = toR q) : p = q := by
  unfold toR at h
  injection h with h1 h2 h3
  have e2 := encS_inj h2
  have e3 := encS_inj h3
  have e1 : decide (p.num < 0) = decide (q.num < 0) := h1
  simp only [decide_eq_decide] at e1
  apply Rat.ext _ e3
  omega
theorem toR_iff {p q : Rat} : toR p = toR q ↔ p = q := ⟨toR_inj, fun h => h ▸ rfl⟩
theorem Bd.mono {q : Rat} {i j : Nat} (h : Bd q i) (hij : i ≤ j) : Bd q j := ⟨Nat.le_trans h.1 hij, Nat.le_trans h.2 hij⟩
theorem Bd.n {q : Rat} {k : Nat} (h : Bd q k) (hk : k ≤ 256) : Sm q.num.natAbs := Nat.le_trans h.1 hk
theorem Bd.d {q : Rat} {k : Nat} (h : Bd q k) (hk : k ≤ 256) : Sm q.den := Nat.le_trans h.2 hk
theorem isE_encS (n : Nat) : isE (encS n) = decide (n = 0) := by
  unfold isE
  rw [size_encS]
  by_cases h : n = 0
  · subst h; rfl
  · have : ¬ (enc n).length = 0 := fun e => h (by have := (enc_length_le n 0).1 (by omega); simpa using this)
    simp [h, this]
theorem one_encS : (⟨#[1]⟩ : ByteArray) = encS 1 := rfl
theorem check_toR {q : Rat} {k : Nat} (h : Bd q k) (hk : k ≤ 256) : checkR (toR q) = 0 := by
  unfold checkR badR toR
  have h1 : (Nat.gcd q.num.natAbs q.den) = 1 := q.reduced
  have h2 := q.den_nz
  simp only [chkE1 (h.n hk), chkE1 (h.d hk), isE_encS, gcdE (h.n hk) (h.d hk), h1, one_encS]
  have h3 : (decide (q.num < 0) && decide (q.num.natAbs = 0)) = false := by
    rw [Bool.and_eq_false_iff]
    by_cases h0 : q.num < 0
    · exact .inr (decide_eq_false (by omega))
    · exact .inl (decide_eq_false h0)
  rw [h3]
  simp [h2]
theorem valid_toR {x : Rt} (h : checkR x = 0) : ∃ q, x = toR q ∧ Bd q 256 := by
  obtain ⟨n, a, b⟩ := x
  unfold checkR at h
  split at h
  · cases h
  · rename_i hb
    split at h
    · rename_i hg
      unfold badR at hb
      simp only [Bool.or_eq_true, decide_eq_true_eq, Bool.and_eq_true, not_or, Classical.not_not] at hb
      obtain ⟨⟨⟨h1, h2⟩, h3⟩, h4⟩ := hb
      obtain ⟨a1, a2⟩ := chk_one h1
      obtain ⟨b1, b2⟩ := chk_one h2
      obtain ⟨ea, sa⟩ := natE a1 a2
      obtain ⟨eb, sb⟩ := natE b1 b2
      simp only at ea eb hg h3 h4
      generalize nv a = i at *
      generalize nv b = j at *
      subst ea
      subst eb
      rw [isE_encS] at h3 h4
      simp only [decide_eq_true_eq] at h3 h4
      rw [gcdE sa sb, one_encS] at hg
      have hg' := encS_inj hg
      refine ⟨⟨if n then -(i : Int) else i, j, h3, ?_⟩, ?_, ?_⟩
      · cases n <;> simpa using hg'
      · unfold toR
        have e1 : (if n = true then -(i : Int) else (i : Int)).natAbs = i := by split <;> omega
        simp only [e1]
        congr 1
        cases n
        · simp
        · have : i ≠ 0 := fun e => h4 ⟨rfl, e⟩
          simp; omega
      · have e1 : (if n = true then -(i : Int) else (i : Int)).natAbs = i := by split <;> omega
        constructor
        · simp only [e1]; exact sa
        · exact sb
    · cases h
theorem Bd.of_size {q : Rat} {k : Nat} (h1 : (toR q).n.size ≤ k) (h2 : (toR q).d.size ≤ k) : Bd q k := by
  unfold toR at h1 h2
  rw [size_encS] at h1 h2
  exact ⟨h1, h2⟩
theorem Bd.zR {q : Rat} {k : Nat} (h : Bd q k) (hk : k ≤ 256) : szB (toR q).n = true ∧ szB (toR q).d = true :=
  ⟨sz256 (by unfold toR; exact (h.n hk).size), sz256 (by unfold toR; exact (h.d hk).size)⟩

/-- the sign that a number shows -/
def Sn (b : Bool) (z : Int) : Prop := z ≠ 0 → b = decide (z < 0)
theorem over_toR {z : Int} {d : Nat} {b : Bool} (hd : d ≠ 0) (hb : Sn b z) (hz : Sm z.natAbs) (hs : Sm d) : overO ⟨b, encS z.natAbs⟩ (encS d) = some (toR (mkRat z d)) := by
  have hg : 0 < Nat.gcd z.natAbs d := Nat.gcd_pos_of_pos_right _ (Nat.pos_of_ne_zero hd)
  have hgz : Sm (Nat.gcd z.natAbs d) := hs.mono (Nat.gcd_le_right _ (Nat.pos_of_ne_zero hd))
  unfold overO overR
  rw [gcdE hz hs]
  simp only [mustO, if_true, Option.map_some, divE hz hgz hg, divE hs hgz hg, isE_encS]
  rw [← Rat.normalize_eq_mkRat hd, Rat.normalize_eq hd]
  unfold toR
  simp only
  have e1 : (z / (Nat.gcd z.natAbs d : Int)).natAbs = z.natAbs / Nat.gcd z.natAbs d := by
    obtain ⟨c, hc⟩ := Nat.gcd_dvd_left z.natAbs d
    have hdv : ((Nat.gcd z.natAbs d : Nat) : Int) ∣ z := by
      have : ((Nat.gcd z.natAbs d : Nat) : Int) ∣ (z.natAbs : Int) := Int.natCast_dvd_natCast.2 (Nat.gcd_dvd_left _ _)
      exact (Int.dvd_natAbs).1 this
    rw [Int.natAbs_ediv_of_dvd hdv]
    simp
  have e2 : (b && !decide (z.natAbs / Nat.gcd z.natAbs d = 0)) = decide (z / (Nat.gcd z.natAbs d : Int) < 0) := by
    by_cases h0 : z = 0
    · subst h0; simp
    · rw [hb h0]
      have hgle : Nat.gcd z.natAbs d ≤ z.natAbs := Nat.gcd_le_left _ (by omega)
      have : z.natAbs / Nat.gcd z.natAbs d ≠ 0 := by
        have := Nat.div_pos hgle hg
        omega
      simp only [this, decide_false, Bool.not_false, Bool.and_true, decide_eq_decide]
      constructor
      · intro h
        exact Int.ediv_neg_of_neg_of_pos h (by omega)
      · intro h
        by_cases h1 : z < 0
        · exact h1
        · have := Int.ediv_nonneg (a := z) (b := (Nat.gcd z.natAbs d : Int)) (by omega) (by omega)
          omega
  rw [e1, e2]
theorem mk_bd {z : Int} {d : Nat} {k : Nat} (hd : d ≠ 0) (hz : (enc z.natAbs).length ≤ k) (hs : (enc d).length ≤ k) : Bd (mkRat z d) k := by
  rw [← Rat.normalize_eq_mkRat hd, Rat.normalize_eq hd]
  unfold Bd
  simp only
  have e1 : (z / (Nat.gcd z.natAbs d : Int)).natAbs = z.natAbs / Nat.gcd z.natAbs d := by
    have hdv : ((Nat.gcd z.natAbs d : Nat) : Int) ∣ z := by
      have : ((Nat.gcd z.natAbs d : Nat) : Int) ∣ (z.natAbs : Int) := Int.natCast_dvd_natCast.2 (Nat.gcd_dvd_left _ _)
      exact (Int.dvd_natAbs).1 this
    rw [Int.natAbs_ediv_of_dvd hdv]
    simp
  rw [e1]
  exact ⟨Nat.le_trans (enc_len_mono (Nat.div_le_self _ _)) hz, Nat.le_trans (enc_len_mono (Nat.div_le_self _ _)) hs⟩
theorem timesE {m n : Nat} (hm : Sm m) (hn : Sm n) (h : Sm (m * n)) : timesO (encS m) (encS n) = some (encS (m * n)) := by
  unfold timesO mustO
  rw [mulE hm hn h]
  rfl
theorem sadd_toR {u v : Int} {bu bv : Bool} (hu : Sn bu u) (hv : Sn bv v) (h : Sm (u.natAbs + v.natAbs)) : ∃ b, saddO ⟨bu, encS u.natAbs⟩ ⟨bv, encS v.natAbs⟩ = some ⟨b, encS (u + v).natAbs⟩ ∧ Sn b (u + v) := by
  have s1 : Sm u.natAbs := h.mono (by omega)
  have s2 : Sm v.natAbs := h.mono (by omega)
  unfold saddO plusO lessB mustO
  simp only [addE s1 s2 h, cmpE s1 s2]
  by_cases hb : bu = bv
  · subst hb
    simp only [if_true, Option.map_some]
    refine ⟨bu, ?_, ?_⟩
    · have : (u + v).natAbs = u.natAbs + v.natAbs := by
        by_cases h1 : u = 0
        · subst h1; simp
        · by_cases h2 : v = 0
          · subst h2; simp
          · have e := (hu h1).symm.trans (hv h2)
            simp only [decide_eq_decide] at e
            omega
      rw [this]
    · intro h0
      by_cases h1 : u = 0
      · subst h1
        rw [Int.zero_add] at h0 ⊢
        exact hv h0
      · by_cases h2 : v = 0
        · subst h2
          rw [Int.add_zero] at h0 ⊢
          exact hu h0
        · have e := (hu h1).symm.trans (hv h2)
          simp only [decide_eq_decide] at e
          rw [hu h1, decide_eq_decide]
          omega
  · rw [if_neg hb]
    have hc : cmpN u.natAbs v.natAbs < 0 ↔ u.natAbs < v.natAbs := by
      unfold cmpN
      split
      · simp; omega
      · split <;> simp <;> omega
    simp only [decide_eq_true_eq, hc]
    by_cases hl : u.natAbs < v.natAbs
    · rw [if_pos hl, subE s2 s1 (by omega)]
      simp only [if_true, Option.map_some]
      have hv0 : v ≠ 0 := by omega
      have hv1 := hv hv0
      refine ⟨bv, ?_, ?_⟩
      · have : (u + v).natAbs = v.natAbs - u.natAbs := by
          by_cases h1 : u = 0
          · subst h1; simp
          · have hu1 := hu h1
            have e : ¬ (decide (u < 0) = decide (v < 0)) := fun e => hb (hu1.trans (e.trans hv1.symm))
            simp only [decide_eq_decide] at e
            omega
        rw [this]
      · intro h0
        rw [hv1, decide_eq_decide]
        omega
    · rw [if_neg hl, subE s1 s2 (by omega)]
      simp only [if_true, Option.map_some]
      refine ⟨bu, ?_, ?_⟩
      · have : (u + v).natAbs = u.natAbs - v.natAbs := by
          by_cases h1 : u = 0
          · omega
          · by_cases h2 : v = 0
            · subst h2; simp
            · have e : ¬ (decide (u < 0) = decide (v < 0)) := fun e => hb ((hu h1).trans (e.trans (hv h2).symm))
              simp only [decide_eq_decide] at e
              omega
        rw [this]
      · intro h0
        have h1 : u ≠ 0 := by omega
        rw [hu h1, decide_eq_decide]
        by_cases h2 : v = 0
        · subst h2; simp
        · have e : ¬ (decide (u < 0) = decide (v < 0)) := fun e => hb ((hu h1).trans (e.trans (hv h2).symm))
          simp only [decide_eq_decide] at e
          omega

end Go.Proofs.Ytmcejefeloljiaa

