/-
  The walks of package naturals: Of, Int, Add.
-/
import Derived.Test.YtieapjdabffjcaaNatApi
namespace Go.Proofs.Ytieapjdabffjcaa
open Go.RowKit Nm

theorem ownU_lit2 (w : World) (x y : Nat) : OwnU (w.alloc (.cells #[.int .u64 (x : Int), .int .u64 (y : Int)] 75)) w.heap.size (.slice (some ⟨w.heap.size, 0, none⟩) 2 2) [x, y] := by
  have h := World.ownsRow_lit (base := w.heap.size) (e := 75) (size := 1) w #[.int .u64 (x : Int), .int .u64 (y : Int)] 2 (Nat.le_refl _) (by unfold maxLen; omega) rfl
  exact h

set_option maxHeartbeats 400000 in
theorem Of_any (n : Int) (w : World) (h1 : -9223372036854775808 ≤ n) (h2 : n ≤ 9223372036854775807) :
    Calls Try.prog 59 #[.int .i64 n] w fun e w' => e = .returned (.tuple #[.string (ofF n).1, .int .i64 (ofF n).2]) ∧ Below w.heap.size w w' := by
  by_cases hn : n < 0
  · have E : Hid (ofF n = (bE, 1)) := if_pos hn
    go_enter Try.func59, Try.ntmps59
    go_wp2_with fail
    go_ret2
    exact ⟨by rw [E.out]; rfl, Below.refl _ _⟩
  · have E : Hid (ofF n = (encS n.toNat, 0)) := if_neg hn
    obtain ⟨m, rfl⟩ := Int.eq_ofNat_of_zero_le (by omega : 0 ≤ n)
    clear hn h1
    go_enter Try.func59, Try.ntmps59
    go_wp2_with fail
    rw [mask32 m (by omega), show (m : Int) / 4294967296 = ((m / 4294967296 : Nat) : Int) by omega]
    have hsm : small [m % 4294967296, m / 4294967296] := by
      intro x hx
      simp at hx
      unfold B32; omega
    refine (text_any _ _ _ _ (ownU_lit2 w _ _) hsm (by simp)).mono ?_
    rintro e w1 ⟨rfl, hb⟩
    go_wp2_with fail
    go_ret2
    refine ⟨?_, (((Below.refl _ w).alloc (Nat.le_refl _) _)).trans (hb.mono (by simp))⟩
    have hd : dv [m % 4294967296, m / 4294967296] = m := by simp only [dv, B32]; omega
    rw [E.out, hd]; rfl

theorem or_byte (x c : Nat) (hc : c < 256) : x * 256 ||| c = x * 256 + c := by
  have h := Nat.shiftLeft_add_eq_or_of_lt (show c < 2 ^ 8 by omega) x
  rw [Nat.shiftLeft_eq] at h
  exact h.symm

set_option maxHeartbeats 400000 in
theorem Int_any (s : ByteArray) (w : World) (hs : s.size ≤ maxLen) :
    Calls Try.prog 40 #[.string s] w fun e w' => e = .returned (.tuple #[.int .i64 (intF s).1, .bool (intF s).2]) ∧ w = w' := by
  unfold maxLen at hs
  by_cases hn : isN s = true
  · by_cases h8 : s.size ≤ 8
    · have HN := Lib.hid hn; clear hn
      go_enter Try.func40, Try.ntmps40
      go_wp2_with fail
      refine (natural_any s w).mono ?_
      rintro e w' ⟨rfl, rfl⟩
      rw [HN.out]
      go_wp2_with fail
      go_loop [4, 16] (fun u i => ∃ k : Nat, k ≤ s.size ∧ i = .int .i64 k ∧ u = .int .u64 ((val (s.data.toList.take k) : Nat) : Int)) (fun _ i => s.size - (intOf i).toNat)
      case atStart => exact ⟨0, Nat.zero_le _, rfl, rfl⟩
      case round =>
        obtain ⟨k, hk, rfl, rfl⟩ := hrel
        have hb := val_lt_of_length (s.data.toList.take k) k (by rw [List.length_take]; omega)
        by_cases hlt : k < s.size
        · have hu : val (s.data.toList.take k) < 72057594037927936 := Nat.lt_of_lt_of_le hb (by
            have := Nat.pow_le_pow_right (show 0 < 256 by omega) (show k ≤ 7 by omega)
            simpa using this)
          have hs1 := take_snoc s k hlt
          have hv : val (s.data.toList.take (k + 1)) = val (s.data.toList.take k) * 256 + s[k].toNat := by rw [hs1, val_snoc]
          have HV := Lib.hid hv
          clear hs1 hv hb
          generalize val (s.data.toList.take k) = x at *
          go_wp2_with fail
          go_round
          case rel =>
            have hb := s[k].toNat_lt
            refine ⟨k + 1, by omega, by go_num, ?_⟩
            rw [wrapU _ (by omega), show ((x : Int) * 256) = ((x * 256 : Nat) : Int) by omega, orU _ _ (by omega) (by omega), HV.out, or_byte x _ (by omega)]
          case measure => simp [intOf]; omega
        · obtain rfl : k = s.size := by omega
          have hu : val (s.data.toList.take s.size) = nv s := by rw [List.take_of_length_le (by rw [sdata_length]; exact Nat.le_refl _)]; rfl
          rw [hu] at hb ⊢
          have hu2 : nv s < 18446744073709551616 := Nat.lt_of_lt_of_le hb (by
            have := Nat.pow_le_pow_right (show 0 < 256 by omega) h8
            simpa using this)
          clear hb hu
          by_cases hbig : nv s < 9223372036854775808
          · have E : Hid (intF s = ((nv s : Int), true)) := if_pos ⟨HN.out, h8, hbig⟩
            generalize nv s = x at *
            go_wp2_with fail
            go_ret2
            exact ⟨by rw [E.out]; rfl, rfl⟩
          · have E : Hid (intF s = (0, false)) := if_neg (by rintro ⟨_, _, h⟩; exact hbig h)
            generalize nv s = x at *
            go_wp2_with fail
            go_ret2
            exact ⟨by rw [E.out]; rfl, rfl⟩
    · have E : Hid (intF s = (0, false)) := if_neg (by rintro ⟨_, h, _⟩; exact h8 h)
      have HN := Lib.hid hn; clear hn
      go_enter Try.func40, Try.ntmps40
      go_wp2_with fail
      refine (natural_any s w).mono ?_
      rintro e w' ⟨rfl, rfl⟩
      rw [HN.out]
      go_wp2_with fail
      go_ret2
      exact ⟨by rw [E.out]; rfl, rfl⟩
  · have E : Hid (intF s = (0, false)) := if_neg (by rintro ⟨h, _⟩; exact hn h)
    have HN := Lib.hid hn; clear hn
    go_enter Try.func40, Try.ntmps40
    go_wp2_with fail
    refine (natural_any s w).mono ?_
    rintro e w' ⟨rfl, rfl⟩
    rw [Bool.eq_false_iff.2 HN.out]
    go_wp2_with fail
    go_ret2
    exact ⟨by rw [E.out]; rfl, rfl⟩

end Go.Proofs.Ytieapjdabffjcaa
