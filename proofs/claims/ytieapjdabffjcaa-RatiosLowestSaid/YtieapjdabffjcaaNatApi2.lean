/-
  The walks of package naturals: Sub, Div, Gcd, Of.
-/
import Derived.Test.YtieapjdabffjcaaNatApi
import Derived.Deep.LoopGhost
namespace Go.Proofs.Ytieapjdabffjcaa
open Go.RowKit Nm

set_option maxHeartbeats 400000 in
theorem Sub_any (a b : ByteArray) (w : World) (ha : a.size ≤ maxLen) (hb : b.size ≤ maxLen) :
    Calls Try.prog 95 #[.string a, .string b] w fun e w' => e = .returned (.tuple #[.string (subF a b).1, .int .i64 (subF a b).2]) ∧ Below w.heap.size w w' := by
  go_enter Try.func95, Try.ntmps95
  go_wp2_with fail
  refine (check2 a b w ha hb).mono ?_
  rintro e w' ⟨rfl, rfl⟩
  have hbl : Below w.heap.size w (w.alloc (.cells #[.string a, .string b] 9)) := (Below.refl _ _).alloc (Nat.le_refl _) _
  generalize w.alloc (.cells #[.string a, .string b] 9) = w1 at *
  by_cases h : chkN [a, b] = 0
  · have E : Hid (subF a b = if nv a < nv b then (bE, 1) else (encS (nv a - nv b), 0)) := if_pos h
    obtain ⟨n1, n2, s1, s2⟩ := chk2_zero h
    rw [h]
    clear h ha hb
    have l1 := digs_of_size s1
    have l2 := digs_of_size s2
    go_wp2_with fail
    refine (words_nat a _ (by omega) n1).mono ?_
    rintro e w2 ⟨v, rfl, hv, hb2⟩
    go_wp2_with fail
    refine (words_nat b _ (by omega) n2).mono ?_
    rintro e w3 ⟨u, rfl, hu, hb3⟩
    go_wp2_with fail
    refine (compare_any _ _ v u _ _ _ (hv.below hb3) hu (by omega) (by omega)).mono ?_
    rintro e w4 ⟨rfl, k, rfl⟩
    have hb4 : Below w.heap.size w (w3.drewN k) := below_drewN (hbl.trans ((hb2.mono hbl.size).trans (hb3.mono (Nat.le_trans hbl.size hb2.size)))) k
    have hne : u.ownBlock = none ∨ u.ownBlock ≠ v.ownBlock := by
      by_cases he : u.ownBlock = v.ownBlock
      · cases hg : u.ownBlock with
        | none => exact Or.inl rfl
        | some g => have h1 := (hu.lt g hg).1; have h2 := (hv.lt g (by rw [← he, hg])).2; omega
      · exact Or.inr he
    have hv4 := (hv.below hb3).drewN k
    have hu4 := hu.drewN k
    have hs1 : w.heap.size ≤ w1.heap.size := hbl.size
    clear hv hu hb2 hb3 hbl
    generalize w3.drewN k = w4 at *
    by_cases hlt : nv a < nv b
    · rw [cmpN_lt hlt]
      go_wp2_with fail
      go_ret2
      exact ⟨by rw [E.out, if_pos hlt]; rfl, hb4⟩
    · have hc : 0 ≤ cmpN (nv a) (nv b) := by
        unfold cmpN; rw [if_neg hlt]; split <;> omega
      generalize cmpN (nv a) (nv b) = cv at *
      go_wp2_with fail
      refine (less_any _ _ v u _ _ _ hv4 hu4 (by omega) (by omega) (by omega) hne).mono ?_
      rintro e w5 ⟨v2, rfl, hv2, hob, hg⟩
      have hb5 := hb4.trans (below_grown hg hb4.size (fun k hk => by have := (hv4.lt k hk).1; omega))
      clear hob hg hv4 hu4
      go_wp2_with fail
      refine (text_any _ v2 _ _ hv2 (small_digs _) (by have := digs_len_mono (Nat.sub_le (nv a) (nv b)); omega)).mono ?_
      rintro e w6 ⟨rfl, hb6⟩
      go_wp2_with fail
      go_ret2
      exact ⟨by rw [E.out, if_neg hlt, dv_digs]; rfl, hb5.trans (hb6.mono hb5.size)⟩
  · have E : Hid (subF a b = (bE, chkN [a, b])) := if_neg h
    have h2 : (chkN [a, b] != 0) = true := by simpa using h
    go_wp2_with fail
    go_ret2
    exact ⟨by rw [E.out]; rfl, hbl⟩

theorem nv_zero_iff {b : ByteArray} (h : isN b = true) : nv b = 0 ↔ b.size = 0 := by
  rw [nv, val_eq_zero _ h, ← List.length_eq_zero_iff, sdata_length]

set_option maxHeartbeats 400000 in
theorem Div_any (a b : ByteArray) (w : World) (ha : a.size ≤ maxLen) (hb : b.size ≤ maxLen) :
    Calls Try.prog 39 #[.string a, .string b] w fun e w' => e = .returned (.tuple #[.string (divF a b).1, .string (divF a b).2.1, .int .i64 (divF a b).2.2]) ∧ Below w.heap.size w w' := by
  go_enter Try.func39, Try.ntmps39
  go_wp2_with fail
  refine (check2 a b w ha hb).mono ?_
  rintro e w' ⟨rfl, rfl⟩
  have hbl : Below w.heap.size w (w.alloc (.cells #[.string a, .string b] 9)) := (Below.refl _ _).alloc (Nat.le_refl _) _
  generalize w.alloc (.cells #[.string a, .string b] 9) = w1 at *
  by_cases h : chkN [a, b] = 0
  · have E : Hid (divF a b = if nv b = 0 then (bE, bE, 71) else (encS (nv a / nv b), encS (nv a % nv b), 0)) := if_pos h
    obtain ⟨n1, n2, s1, s2⟩ := chk2_zero h
    rw [h]
    clear h ha hb
    have l1 := digs_of_size s1
    have l2 := digs_of_size s2
    by_cases h0 : 0 < b.size
    · have h1 : b.toList.isEmpty = false := isEmpty_false h0
      have hz : ¬ nv b = 0 := fun h => by have := (nv_zero_iff n2).1 h; omega
      have HZ := Lib.hid hz; clear hz
      go_wp2_with fail
      refine (words_nat a _ (by omega) n1).mono ?_
      rintro e w2 ⟨v, rfl, hv, hb2⟩
      go_wp2_with fail
      refine (words_nat b _ (by omega) n2).mono ?_
      rintro e w3 ⟨u, rfl, hu, hb3⟩
      go_wp2_with fail
      refine (divide_any _ _ v u _ _ _ (hv.below hb3) hu (Nat.pos_of_ne_zero HZ.out) (by omega) (by omega)).mono ?_
      rintro e w4 ⟨v1, v2, rfl, hq, hr, hb4⟩
      have hb5 := hbl.trans ((hb2.mono hbl.size).trans ((hb3.mono (Nat.le_trans hbl.size hb2.size)).trans (hb4.mono (Nat.le_trans hbl.size (Nat.le_trans hb2.size hb3.size)))))
      clear hv hu hb2 hb3 hb4 hbl
      go_wp2_with fail
      refine (text_any _ v1 _ _ hq (small_digs _) (by have := digs_len_mono (Nat.div_le_self (nv a) (nv b)); omega)).mono ?_
      rintro e w6 ⟨rfl, hb6⟩
      go_wp2_with fail
      refine (text_any _ v2 _ _ (hr.below hb6) (small_digs _) (by have := digs_len_mono (Nat.mod_le (nv a) (nv b)); omega)).mono ?_
      rintro e w7 ⟨rfl, hb7⟩
      go_wp2_with fail
      go_ret3
      exact ⟨by rw [E.out, if_neg HZ.out, dv_digs, dv_digs]; rfl, hb5.trans ((hb6.mono hb5.size).trans (hb7.mono (Nat.le_trans hb5.size hb6.size)))⟩
    · have h1 : b.toList.isEmpty = true := isEmpty_true h0
      have hz : Hid (nv b = 0) := (nv_zero_iff n2).2 (by omega)
      go_wp2_with fail
      go_ret3
      exact ⟨by rw [E.out, if_pos hz.out]; rfl, hbl⟩
  · have E : Hid (divF a b = (bE, bE, chkN [a, b])) := if_neg h
    have h2 : (chkN [a, b] != 0) = true := by simpa using h
    go_wp2_with fail
    go_ret3
    exact ⟨by rw [E.out]; rfl, hbl⟩

set_option maxHeartbeats 400000 in
theorem Gcd_any (a b : ByteArray) (w : World) (ha : a.size ≤ maxLen) (hb : b.size ≤ maxLen) :
    Calls Try.prog 46 #[.string a, .string b] w fun e w' => e = .returned (.tuple #[.string (gcdF a b).1, .int .i64 (gcdF a b).2]) ∧ Below w.heap.size w w' := by
  go_enter Try.func46, Try.ntmps46
  go_wp2_with fail
  refine (check2 a b w ha hb).mono ?_
  rintro e w' ⟨rfl, rfl⟩
  have hbl : Below w.heap.size w (w.alloc (.cells #[.string a, .string b] 9)) := (Below.refl _ _).alloc (Nat.le_refl _) _
  generalize w.alloc (.cells #[.string a, .string b] 9) = w1 at *
  by_cases h : chkN [a, b] = 0
  · have E : Hid (gcdF a b = (encS (Nat.gcd (nv a) (nv b)), 0)) := if_pos h
    obtain ⟨n1, n2, s1, s2⟩ := chk2_zero h
    rw [h]
    clear h ha hb
    have l1 := digs_of_size s1
    have l2 := digs_of_size s2
    go_wp2_with fail
    refine (words_nat a _ (by omega) n1).mono ?_
    rintro e w2 ⟨v, rfl, hv, hb2⟩
    go_wp2_with fail
    refine (words_nat b _ (by omega) n2).mono ?_
    rintro e w3 ⟨u, rfl, hu, hb3⟩
    have hbl3 := hbl.trans ((hb2.mono hbl.size).trans (hb3.mono (Nat.le_trans hbl.size hb2.size)))
    have hv3 := (hv.below hb3).mono (Nat.zero_le _)
    have hu3 := hu.mono (Nat.zero_le _)
    clear hv hu hb2 hb3 hbl
    go_wp2_with fail
    go_loopg [7, 8] (nv b) (fun m x y wr => ∃ n : Nat, OwnU wr 0 x (digs n) ∧ OwnU wr 0 y (digs m) ∧ Nat.gcd n m = Nat.gcd (nv a) (nv b) ∧ (digs n).length ≤ 64 ∧ (digs m).length ≤ 64 ∧ Below w.heap.size w wr)
    case atStart => exact ⟨nv a, hv3, hu3, rfl, l1, l2, hbl3⟩
    case round =>
      clear hv3 hu3 hbl3
      obtain ⟨n, hv, hu, hg, hn, hm, hbl⟩ := hrel
      obtain ⟨oa, cap, rfl, hcap, hcm⟩ := hv.shp
      obtain ⟨ob, cap', rfl, hcap', hcm'⟩ := hu.shp
      have HG := Lib.hid hg
      have HV := Lib.hid hv
      have HU := Lib.hid hu
      clear hg hv hu
      by_cases h0 : 0 < gk
      · have hl0 : 0 < (digs gk).length := List.length_pos_iff.2 (fun h => by have := (digs_eq_nil gk).1 h; omega)
        go_wp2_with fail
        refine (divide_any 0 0 _ _ n gk _ HV.out HU.out h0 (by omega) (by omega)).mono ?_
        rintro e w4 ⟨v1, v2, rfl, hq, hr, hb4⟩
        have hu4 := HU.out.below hb4
        have hb5 := hbl.trans (hb4.mono hbl.size)
        have hr4 := hr.mono (Nat.zero_le _)
        clear hq hr hb4
        go_wp2_with fail
        go_roundg (n % gk)
        case measure => exact Nat.mod_lt _ h0
        case rel => exact ⟨gk, hu4, hr4, by rw [← HG.out, Nat.gcd_comm n gk, Nat.gcd_rec gk n, Nat.gcd_comm], hm, Nat.le_trans (digs_len_mono (Nat.mod_le _ _)) hn, hb5⟩
      · obtain rfl : gk = 0 := by omega
        have hl0 : (digs 0).length = 0 := rfl
        go_wp2_with fail
        refine (text_any 0 _ _ _ HV.out (small_digs _) (by omega)).mono ?_
        rintro e w5 ⟨rfl, hb5⟩
        go_wp2_with fail
        go_ret2
        exact ⟨by rw [E.out, dv_digs, ← HG.out, Nat.gcd_zero_right]; rfl, hbl.trans (hb5.mono hbl.size)⟩
  · have E : Hid (gcdF a b = (bE, chkN [a, b])) := if_neg h
    have h2 : (chkN [a, b] != 0) = true := by simpa using h
    go_wp2_with fail
    go_ret2
    exact ⟨by rw [E.out]; rfl, hbl⟩

end Go.Proofs.Ytieapjdabffjcaa
