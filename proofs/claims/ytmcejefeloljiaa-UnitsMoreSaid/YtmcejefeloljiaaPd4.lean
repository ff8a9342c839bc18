/-
  The walks of the reference for naturals: Add, minus, Sub.
-/
import Derived.Test.YtmcejefeloljiaaPd3
import Derived.OpenShut
import Derived.ShutString
import Derived.WalkKit
import Derived.Carry
import Derived.ProofKit
namespace Go.Proofs.Ytmcejefeloljiaa
set_option linter.unusedVariables false
set_option linter.unusedSimpArgs false
open Go.RowKit Nm

/-- between two rounds of the loops that add or subtract digit by digit -/
structure linI (s : Int) (X Y o : List Int) (k : Nat) : Prop where
  len : o.length = k
  sum : vle o = vle (X.take k) + s * vle (Y.take k)
  rng : ∀ x ∈ o, -510 ≤ x ∧ x ≤ 510
theorem linI.zero (s : Int) (X Y : List Int) : linI s X Y [] 0 := ⟨rfl, by simp [vle], by simp⟩
theorem linI.step {s : Int} {X Y o : List Int} {k : Nat} (h : linI s X Y o k) (z : Int) (hz : z = X.getD k 0 + s * Y.getD k 0) (hr : -510 ≤ z ∧ z ≤ 510) : linI s X Y (o ++ [z]) (k + 1) := by
  refine ⟨by simp [h.len], ?_, ?_⟩
  · rw [vle_snoc, h.len, h.sum, vle_take X, vle_take Y, hz, Int.mul_add, Int.mul_add, ← Int.mul_assoc, ← Int.mul_assoc, Int.mul_comm s (256 ^ k)]
    omega
  · intro x hx
    rw [List.mem_append] at hx
    rcases hx with hx | hx
    · exact h.rng x hx
    · simp at hx; subst hx; exact hr
theorem linI.done {s : Int} {X Y o : List Int} {k : Nat} (h : linI s X Y o k) (hX : X.length ≤ k) (hY : Y.length ≤ k) : vle o = vle X + s * vle Y := by
  rw [h.sum, List.take_of_length_le hX, List.take_of_length_le hY]
theorem vle_dgi_nv (a : ByteArray) : vle (dgi a.data.toList) = ((nv a : Nat) : Int) := vle_dgi _
theorem dgi_len (a : ByteArray) : (dgi a.data.toList).length = a.size := by rw [length_dgi, sdata_length]

set_option maxHeartbeats 1000000 in
/-- number(carry(l)) -/
theorem numcarry (B : Nat) (v : Value) (xs : List Int) (w : World) (N : Nat) (hown : OwnZ w B v xs) (he : ∀ x ∈ xs, -8589934592 ≤ x ∧ x ≤ 8589934592) (hv : vle xs = (N : Int)) (hl : xs.length ≤ 65530) :
    Calls Try.prog 116 #[v] w fun e w' => ∃ v', e = .returned v' ∧ Below w.heap.size w w' ∧
      Calls Try.prog 115 #[v'] w' fun e w'' => e = .returned (.string (encS N)) ∧ Below w.heap.size w w'' := by
  refine (carry_any B v xs w hown he (by omega) (by omega)).mono ?_
  rintro e w' ⟨v', out, rfl, ho, hs, hr, hlen, hb⟩
  refine ⟨v', rfl, hb, ?_⟩
  refine (number_any _ v' out w' ho hr (by omega)).mono ?_
  rintro e w'' ⟨rfl, hb2⟩
  refine ⟨?_, hb.trans (hb2.mono hb.size)⟩
  rw [hs, hv]
  rfl

set_option maxHeartbeats 4000000 in
theorem rAdd_any (a b : ByteArray) (w : World) :
    Calls Try.prog 56 #[.string a, .string b] w fun e w' => e = .returned (.tuple #[.string (addF a b).1, .int .i64 (addF a b).2]) ∧ Below w.heap.size w w' := by
  have h_ := fun w => both_any a b w
  by_cases h : chkN [a, b] = 0
  · have E : Hid (addF a b = shortN (nv a + nv b)) := Lib.hid (if_pos h)
    obtain ⟨_, _, s1, s2⟩ := chk2_zero h
    rw [h] at h_
    have HB := Lib.hid h_
    have lx := dgi_len a
    have ly := dgi_len b
    have vx := vle_dgi_nv a
    have vy := vle_dgi_nv b
    have da := fun w => digits_any a w (by omega)
    have db := fun w => digits_any b w (by omega)
    have rx := dgi_range a.data.toList
    have ry := dgi_range b.data.toList
    generalize dgi a.data.toList = X at *
    generalize dgi b.data.toList = Y at *
    have DA := Lib.hid da
    have DB := Lib.hid db
    have VX := Lib.hid vx
    have VY := Lib.hid vy
    have RX := Lib.hid rx
    have RY := Lib.hid ry
    rw [← lx] at s1
    rw [← ly] at s2
    clear lx ly da db vx vy rx ry
    clear h_ h
    go_enter Try.func56, Try.ntmps56
    go_wp2_with fail
    refine (HB.out _).mono ?_
    rintro e w1 ⟨rfl, rfl⟩
    go_wp2_with fail
    refine (DA.out _).mono ?_
    rintro e w2 ⟨v, rfl, hv, hb2⟩
    go_wp2_with fail
    refine (DB.out _).mono ?_
    rintro e w3 ⟨u, rfl, hu, hb3⟩
    have hbl3 := hb2.trans (hb3.mono hb2.size)
    obtain ⟨oa, cap, rfl, hcap, hcm⟩ := hv.shp
    obtain ⟨ob, cap', rfl, hcap', hcm'⟩ := hu.shp
    have HV := Lib.hid (hv.below hb3)
    have HU := Lib.hid hu
    have HB3 := Lib.hid hbl3
    clear hv hu hb2 hb3 hbl3
    go_wp2_with fail
    go_loopw [9, 10] (fun l i wr => ∃ (k : Nat) (o : List Int), k ≤ max X.length Y.length ∧ i = .int .i64 (k : Int) ∧ linI 1 X Y o k ∧ OwnZ wr w3.heap.size l o ∧ Below w3.heap.size w3 wr) (fun _ i _ => max X.length Y.length - (intOf i).toNat)
    case atStart => exact ⟨0, [], by omega, rfl, linI.zero _ _ _, OwnZ.lit0 w3, (Below.refl _ _).alloc (Nat.le_refl _) _⟩
    case round =>
      obtain ⟨k, o, hk, rfl, hL, hown, hbl⟩ := hrel
      have hol := hL.len
      have HL := Lib.hid hL
      clear hL
      obtain ⟨ol, cl, hlv, hcl, hclm⟩ := hown.shp
      subst hlv
      by_cases hm : X.length < Y.length
      · skip
        by_cases h0 : k < Y.length
        · skip
          have hxr := getD_range RX.out (by omega) (by omega) k
          have hyr := getD_range RY.out (by omega) (by omega) k
          have ax := fun ww (h : OwnZ ww w.heap.size (.slice oa X.length cap) X) => at_any _ _ X k ww h (by omega)
          have ay := fun ww (h : OwnZ ww w2.heap.size (.slice ob Y.length cap') Y) => at_any _ _ Y k ww h (by omega)
          generalize hx : X.getD k 0 = x at *
          generalize hy : Y.getD k 0 = y at *
          have AX := Lib.hid (ax wr (HV.out.below hbl))
          have AY := Lib.hid (ay wr (HU.out.below hbl))
          have HST := Lib.hid (HL.out.step (x + y) (by rw [hx, hy]; omega) (by omega))
          obtain ⟨x1, x2⟩ := hxr
          obtain ⟨y1, y2⟩ := hyr
          have hol2 : o.length + 1 ≤ 4294967296 := by omega
          clear ax ay hx hy hol
          go_wp2_with fail
          refine AX.out.mono ?_
          rintro e w4 ⟨rfl, rfl⟩
          go_wp2_with fail
          refine AY.out.mono ?_
          rintro e w4 ⟨rfl, rfl⟩
          go_wp2_with (at_builtin; refine append1I wr rfl _ _ 164 rfl w3.heap.size 3 .i64 8 info_i64 Try.underlying164 _ o hown rfl _ _ _ rfl rfl hol2 (by omega) hbl.size ?_)
          intro l' w4 hown' hgrow
          have hbl2 := grown_belowI hbl hown hgrow hbl.size
          clear hgrow hown hbl
          go_wp2_with fail
          go_roundw
          case rel => exact ⟨k + 1, _, by omega, by go_num, HST.out, hown', hbl2⟩
          case measure => simp [intOf]; omega
        · have hsum : vle o = ((nv a + nv b : Nat) : Int) := by
            rw [HL.out.done (by omega) (by omega), VX.out, VY.out]
            omega
          have hnc := numcarry _ _ o wr (nv a + nv b) hown (fun x hx => by have := HL.out.rng x hx; omega) hsum (by omega)
          have HNC := Lib.hid hnc
          clear hnc hsum hol
          go_wp2_with fail
          refine HNC.out.mono ?_
          rintro e w5 ⟨v', rfl, hb5, hn⟩
          have HN := Lib.hid hn
          clear hn
          go_wp2_with fail
          refine HN.out.mono ?_
          rintro e w6 ⟨rfl, hb6⟩
          go_wp2_with fail
          refine (rshort_any _ _).mono ?_
          rintro e w7 ⟨rfl, rfl⟩
          go_wp2_with fail
          go_ret2
          have hbw : Below w.heap.size w wr := HB3.out.trans (hbl.mono HB3.out.size)
          exact ⟨by rw [E.out]; rfl, hbw.trans (hb6.mono hbw.size)⟩
      · replace hm : Y.length ≤ X.length := by omega
        by_cases h0 : k < X.length
        · skip
          have hxr := getD_range RX.out (by omega) (by omega) k
          have hyr := getD_range RY.out (by omega) (by omega) k
          have ax := fun ww (h : OwnZ ww w.heap.size (.slice oa X.length cap) X) => at_any _ _ X k ww h (by omega)
          have ay := fun ww (h : OwnZ ww w2.heap.size (.slice ob Y.length cap') Y) => at_any _ _ Y k ww h (by omega)
          generalize hx : X.getD k 0 = x at *
          generalize hy : Y.getD k 0 = y at *
          have AX := Lib.hid (ax wr (HV.out.below hbl))
          have AY := Lib.hid (ay wr (HU.out.below hbl))
          have HST := Lib.hid (HL.out.step (x + y) (by rw [hx, hy]; omega) (by omega))
          obtain ⟨x1, x2⟩ := hxr
          obtain ⟨y1, y2⟩ := hyr
          have hol2 : o.length + 1 ≤ 4294967296 := by omega
          clear ax ay hx hy hol
          go_wp2_with fail
          refine AX.out.mono ?_
          rintro e w4 ⟨rfl, rfl⟩
          go_wp2_with fail
          refine AY.out.mono ?_
          rintro e w4 ⟨rfl, rfl⟩
          go_wp2_with (at_builtin; refine append1I wr rfl _ _ 164 rfl w3.heap.size 3 .i64 8 info_i64 Try.underlying164 _ o hown rfl _ _ _ rfl rfl hol2 (by omega) hbl.size ?_)
          intro l' w4 hown' hgrow
          have hbl2 := grown_belowI hbl hown hgrow hbl.size
          clear hgrow hown hbl
          go_wp2_with fail
          go_roundw
          case rel => exact ⟨k + 1, _, by omega, by go_num, HST.out, hown', hbl2⟩
          case measure => simp [intOf]; omega
        · have hsum : vle o = ((nv a + nv b : Nat) : Int) := by
            rw [HL.out.done (by omega) (by omega), VX.out, VY.out]
            omega
          have hnc := numcarry _ _ o wr (nv a + nv b) hown (fun x hx => by have := HL.out.rng x hx; omega) hsum (by omega)
          have HNC := Lib.hid hnc
          clear hnc hsum hol
          go_wp2_with fail
          refine HNC.out.mono ?_
          rintro e w5 ⟨v', rfl, hb5, hn⟩
          have HN := Lib.hid hn
          clear hn
          go_wp2_with fail
          refine HN.out.mono ?_
          rintro e w6 ⟨rfl, hb6⟩
          go_wp2_with fail
          refine (rshort_any _ _).mono ?_
          rintro e w7 ⟨rfl, rfl⟩
          go_wp2_with fail
          go_ret2
          have hbw : Below w.heap.size w wr := HB3.out.trans (hbl.mono HB3.out.size)
          exact ⟨by rw [E.out]; rfl, hbw.trans (hb6.mono hbw.size)⟩
  · have E : Hid (addF a b = (bE, chkN [a, b])) := Lib.hid (if_neg h)
    have HB := Lib.hid h_
    have h2 : (chkN [a, b] != 0) = true := by simpa using h
    clear h_ h
    go_enter Try.func56, Try.ntmps56
    go_wp2_with fail
    refine (HB.out _).mono ?_
    rintro e w1 ⟨rfl, rfl⟩
    go_wp2_with fail
    go_ret2
    exact ⟨by rw [E.out]; rfl, Below.refl _ _⟩

set_option maxHeartbeats 4000000 in
theorem minus_any (a b : ByteArray) (w : World) (s1 : a.size ≤ 4096) (s2 : b.size ≤ a.size) (hle : nv b ≤ nv a) :
    Calls Try.prog 122 #[.string a, .string b] w fun e w' => e = .returned (.string (encS (nv a - nv b))) ∧ Below w.heap.size w w' := by
  have lx := dgi_len a
  have ly := dgi_len b
  have vx := vle_dgi_nv a
  have vy := vle_dgi_nv b
  have da := fun w => digits_any a w (by omega)
  have db := fun w => digits_any b w (by omega)
  have rx := dgi_range a.data.toList
  have ry := dgi_range b.data.toList
  generalize dgi a.data.toList = X at *
  generalize dgi b.data.toList = Y at *
  have DA := Lib.hid da
  have DB := Lib.hid db
  have VX := Lib.hid vx
  have VY := Lib.hid vy
  have RX := Lib.hid rx
  have RY := Lib.hid ry
  rw [← lx] at s1 s2
  rw [← ly] at s2
  clear lx ly da db vx vy rx ry
  go_enter Try.func122, Try.ntmps122
  go_wp2_with fail
  refine (DA.out _).mono ?_
  rintro e w2 ⟨v, rfl, hv, hb2⟩
  go_wp2_with fail
  refine (DB.out _).mono ?_
  rintro e w3 ⟨u, rfl, hu, hb3⟩
  have hbl3 := hb2.trans (hb3.mono hb2.size)
  obtain ⟨oa, cap, rfl, hcap, hcm⟩ := hv.shp
  obtain ⟨ob, cap', rfl, hcap', hcm'⟩ := hu.shp
  have HV := Lib.hid (hv.below hb3)
  have HU := Lib.hid hu
  have HB3 := Lib.hid hbl3
  clear hv hu hb2 hb3 hbl3
  go_wp2_with fail
  go_loopw [7, 8] (fun l i wr => ∃ (k : Nat) (o : List Int), k ≤ X.length ∧ i = .int .i64 (k : Int) ∧ linI (-1) X Y o k ∧ OwnZ wr w3.heap.size l o ∧ Below w3.heap.size w3 wr) (fun _ i _ => X.length - (intOf i).toNat)
  case atStart => exact ⟨0, [], by omega, rfl, linI.zero _ _ _, OwnZ.lit0 w3, (Below.refl _ _).alloc (Nat.le_refl _) _⟩
  case round =>
    obtain ⟨k, o, hk, rfl, hL, hown, hbl⟩ := hrel
    have hol := hL.len
    have HL := Lib.hid hL
    clear hL
    obtain ⟨ol, cl, hlv, hcl, hclm⟩ := hown.shp
    subst hlv
    by_cases h0 : k < X.length
    · skip
      have hxr := getD_range RX.out (by omega) (by omega) k
      have hyr := getD_range RY.out (by omega) (by omega) k
      have ax := fun ww (h : OwnZ ww w.heap.size (.slice oa X.length cap) X) => at_any _ _ X k ww h (by omega)
      have ay := fun ww (h : OwnZ ww w2.heap.size (.slice ob Y.length cap') Y) => at_any _ _ Y k ww h (by omega)
      generalize hx : X.getD k 0 = x at *
      generalize hy : Y.getD k 0 = y at *
      have AX := Lib.hid (ax wr (HV.out.below hbl))
      have AY := Lib.hid (ay wr (HU.out.below hbl))
      have HST := Lib.hid (HL.out.step (x - y) (by rw [hx, hy]; omega) (by omega))
      obtain ⟨x1, x2⟩ := hxr
      obtain ⟨y1, y2⟩ := hyr
      have hol2 : o.length + 1 ≤ 4294967296 := by omega
      clear ax ay hx hy hol
      go_wp2_with fail
      refine AX.out.mono ?_
      rintro e w4 ⟨rfl, rfl⟩
      go_wp2_with fail
      refine AY.out.mono ?_
      rintro e w4 ⟨rfl, rfl⟩
      go_wp2_with (at_builtin; refine append1I wr rfl _ _ 164 rfl w3.heap.size 3 .i64 8 info_i64 Try.underlying164 _ o hown rfl _ _ _ rfl rfl hol2 (by omega) hbl.size ?_)
      intro l' w4 hown' hgrow
      have hbl2 := grown_belowI hbl hown hgrow hbl.size
      clear hgrow hown hbl
      go_wp2_with fail
      go_roundw
      case rel => exact ⟨k + 1, _, by omega, by go_num, HST.out, hown', hbl2⟩
      case measure => simp [intOf]; omega
    · have hsum : vle o = ((nv a - nv b : Nat) : Int) := by
        rw [HL.out.done (by omega) (by omega), VX.out, VY.out]
        omega
      have hnc := numcarry _ _ o wr (nv a - nv b) hown (fun x hx => by have := HL.out.rng x hx; omega) hsum (by omega)
      have HNC := Lib.hid hnc
      clear hnc hsum hol
      go_wp2_with fail
      refine HNC.out.mono ?_
      rintro e w5 ⟨v', rfl, hb5, hn⟩
      have HN := Lib.hid hn
      clear hn
      go_wp2_with fail
      refine HN.out.mono ?_
      rintro e w6 ⟨rfl, hb6⟩
      go_wp2_with fail
      go_ret
      have hbw : Below w.heap.size w wr := HB3.out.trans (hbl.mono HB3.out.size)
      exact ⟨rfl, hbw.trans (hb6.mono hbw.size)⟩

theorem size_le_of {a b : ByteArray} (h1 : isN a = true) (h2 : isN b = true) (h : nv b ≤ nv a) : b.size ≤ a.size := by
  apply Decidable.byContradiction
  intro hc
  have := nv_lt_of_size h2 (show a.size < b.size by omega)
  omega
set_option maxHeartbeats 1000000 in
theorem rSub_any (a b : ByteArray) (w : World) :
    Calls Try.prog 66 #[.string a, .string b] w fun e w' => e = .returned (.tuple #[.string (subF a b).1, .int .i64 (subF a b).2]) ∧ Below w.heap.size w w' := by
  have h_ := fun w => both_any a b w
  by_cases h : chkN [a, b] = 0
  · obtain ⟨n1, n2, s1, s2⟩ := chk2_zero h
    rw [h] at h_
    have HB := Lib.hid h_
    have l1 := fun w => less_ref a b w n1 n2 (by unfold maxLen; omega) (by unfold maxLen; omega)
    by_cases hlt : nv a < nv b
    · have E : Hid (subF a b = (bE, 1)) := Lib.hid (by rw [subF, if_pos h, if_pos hlt])
      rw [decide_eq_true hlt] at l1
      have HL := Lib.hid l1
      clear h_ h l1 hlt
      go_enter Try.func66, Try.ntmps66
      go_wp2_with fail
      refine (HB.out _).mono ?_
      rintro e w1 ⟨rfl, rfl⟩
      go_wp2_with fail
      refine (HL.out _).mono ?_
      rintro e w2 ⟨rfl, k, rfl⟩
      go_wp2_with fail
      go_ret2
      exact ⟨by rw [E.out]; rfl, below_drewN (Below.refl _ _) k⟩
    · have E : Hid (subF a b = (encS (nv a - nv b), 0)) := Lib.hid (by rw [subF, if_pos h, if_neg hlt])
      have HM := Lib.hid (fun w => minus_any a b w (by omega) (size_le_of n1 n2 (by omega)) (by omega))
      rw [decide_eq_false hlt] at l1
      have HL := Lib.hid l1
      clear h_ h l1 hlt
      go_enter Try.func66, Try.ntmps66
      go_wp2_with fail
      refine (HB.out _).mono ?_
      rintro e w1 ⟨rfl, rfl⟩
      go_wp2_with fail
      refine (HL.out _).mono ?_
      rintro e w2 ⟨rfl, k, rfl⟩
      go_wp2_with fail
      refine (HM.out _).mono ?_
      rintro e w3 ⟨rfl, hb3⟩
      go_wp2_with fail
      go_ret2
      exact ⟨by rw [E.out]; rfl, (below_drewN (Below.refl _ _) k).trans hb3⟩
  · have E : Hid (subF a b = (bE, chkN [a, b])) := Lib.hid (if_neg h)
    have HB := Lib.hid h_
    have h2 : (chkN [a, b] != 0) = true := by simpa using h
    clear h_ h
    go_enter Try.func66, Try.ntmps66
    go_wp2_with fail
    refine (HB.out _).mono ?_
    rintro e w1 ⟨rfl, rfl⟩
    go_wp2_with fail
    go_ret2
    exact ⟨by rw [E.out]; rfl, Below.refl _ _⟩

end Go.Proofs.Ytmcejefeloljiaa

/-
  The walks of the reference for naturals: Mul.
-/
namespace Go.Proofs.Ytmcejefeloljiaa
set_option linter.unusedVariables false
set_option linter.unusedSimpArgs false
open Go.RowKit Nm

/-- between two rounds of the loops of 'Mul' -/
structure mulI (X Y o : List Int) (i j : Nat) (x : Int) : Prop where
  len : o.length = X.length + Y.length
  sum : vle o = vle (X.take i) * vle Y + 256 ^ i * (x * vle (Y.take j))
  rng : ∀ z ∈ o, 0 ≤ z ∧ z ≤ (256 * i + j) * 65025
theorem mulI.zero (X Y : List Int) : mulI X Y (List.replicate (X.length + Y.length) 0) 0 0 0 := by
  refine ⟨by simp, by rw [vle_replicate]; simp [vle], ?_⟩
  intro z hz
  rw [List.mem_replicate] at hz
  omega
theorem mulI.set {X Y o : List Int} {i j : Nat} {x y l : Int} (h : mulI X Y o i j x) (hj : j < Y.length) (hi : i + j < o.length) (hy : Y[j] = y) (hl : o[i + j] = l)
    (hr : 0 ≤ x * y ∧ x * y ≤ 65025) : mulI X Y (o.set (i + j) (l + x * y)) i (j + 1) x := by
  refine ⟨by rw [List.length_set]; exact h.len, ?_, ?_⟩
  · rw [vle_set o (i + j) _ hi, hl, h.sum, vle_take Y j, show Y.getD j 0 = y by simp [List.getD, hj, hy]]
    rw [show l + x * y - l = x * y by omega, Int.pow_add, Int.mul_add x, Int.mul_add (256 ^ i), Int.add_assoc]
    congr 2
    rw [Int.mul_assoc, Int.mul_left_comm (256 ^ j)]
  · intro z hz
    have h0 := h.rng l (by rw [← hl]; exact List.getElem_mem hi)
    rcases List.mem_or_eq_of_mem_set hz with hz | hz
    · have := h.rng z hz
      omega
    · omega
theorem mulI.next {X Y o : List Int} {i : Nat} {x : Int} (h : mulI X Y o i Y.length x) (hi : i < X.length) (hx : X[i] = x) (hY : Y.length ≤ 256) : mulI X Y o (i + 1) 0 0 := by
  refine ⟨h.len, ?_, ?_⟩
  · rw [h.sum, List.take_length, vle_take X i, show X.getD i 0 = x by simp [List.getD, hi, hx], Int.add_mul]
    simp [vle, Int.mul_assoc]
  · intro z hz
    have := h.rng z hz
    omega
theorem mulI.begin {X Y o : List Int} {i : Nat} {x : Int} (h : mulI X Y o i 0 0) : mulI X Y o i 0 x := by
  refine ⟨h.len, ?_, h.rng⟩
  rw [h.sum]
  simp [vle]
theorem mulI.done {X Y o : List Int} {i : Nat} (h : mulI X Y o i 0 0) (hi : X.length ≤ i) : vle o = vle X * vle Y := by
  rw [h.sum, List.take_of_length_le hi]
  simp
theorem mul_small {x y : Int} (hx : 0 ≤ x ∧ x < 256) (hy : 0 ≤ y ∧ y < 256) : 0 ≤ x * y ∧ x * y ≤ 65025 := by
  refine ⟨Int.mul_nonneg hx.1 hy.1, ?_⟩
  have h1 : x * y ≤ 255 * y := Int.mul_le_mul_of_nonneg_right (by omega) hy.1
  omega

set_option maxHeartbeats 4000000 in
theorem rMul_any (a b : ByteArray) (w : World) :
    Calls Try.prog 64 #[.string a, .string b] w fun e w' => e = .returned (.tuple #[.string (mulF a b).1, .int .i64 (mulF a b).2]) ∧ Below w.heap.size w w' := by
  have h_ := fun w => both_any a b w
  by_cases h : chkN [a, b] = 0
  · have E : Hid (mulF a b = shortN (nv a * nv b)) := Lib.hid (if_pos h)
    obtain ⟨_, _, s1, s2⟩ := chk2_zero h
    rw [h] at h_
    have HB := Lib.hid h_
    have lx := dgi_len a
    have ly := dgi_len b
    have vx := vle_dgi_nv a
    have vy := vle_dgi_nv b
    have da := fun w => digits_any a w (by omega)
    have db := fun w => digits_any b w (by omega)
    have rx := dgi_range a.data.toList
    have ry := dgi_range b.data.toList
    generalize dgi a.data.toList = X at *
    generalize dgi b.data.toList = Y at *
    have DA := Lib.hid da
    have DB := Lib.hid db
    have VX := Lib.hid vx
    have VY := Lib.hid vy
    have RX := Lib.hid rx
    have RY := Lib.hid ry
    rw [← lx] at s1
    rw [← ly] at s2
    clear lx ly da db vx vy rx ry h_ h
    obtain ⟨i0, hi, hz0, hz1, hz2⟩ := info_parts info_i64
    go_enter Try.func64, Try.ntmps64
    go_wp2_with fail
    refine (HB.out _).mono ?_
    rintro e w1 ⟨rfl, rfl⟩
    go_wp2_with fail
    refine (DA.out _).mono ?_
    rintro e w2 ⟨v, rfl, hv, hb2⟩
    go_wp2_with fail
    refine (DB.out _).mono ?_
    rintro e w3 ⟨u, rfl, hu, hb3⟩
    have hbl3 := hb2.trans (hb3.mono hb2.size)
    obtain ⟨oa, cap, rfl, hcap, hcm⟩ := hv.shp
    obtain ⟨ob, cap', rfl, hcap', hcm'⟩ := hu.shp
    have HV := Lib.hid (hv.below hb3)
    have HU := Lib.hid hu
    have HB3 := Lib.hid hbl3
    clear hv hu hb2 hb3 hbl3
    go_wp2_with (at_make; refine wpList_make_full _ rfl _ _ 164 rfl w3.heap.size 3 i0 (.int .i64 0) 1 Try.underlying164 hi hz0 hz1 .i64 .i64 _ _ (X.length + Y.length) rfl rfl (by omega) (by omega) (by rw [hz2]; omega) (by unfold maxLen; omega) (Nat.le_refl _) ?_)
    intro w4 hown hgrow
    have hown4 := OwnI.made hown
    have hbl4 := below_grown (B := w3.heap.size) hgrow (Nat.le_refl _) (by simp)
    have HO4 := Lib.hid hown4
    have HB4 := Lib.hid hbl4
    clear hown hgrow hown4 hbl4 hi hz0 hz1 hz2
    go_wp2_with fail
    go_loopw [10] (fun i wr => ∃ (k : Nat) (o : List Int), k ≤ X.length ∧ i = .int .i64 k ∧ mulI X Y o k 0 0 ∧ OwnZ wr w3.heap.size (.slice (some ⟨w3.heap.size, 0, none⟩) (X.length + Y.length) (X.length + Y.length)) o ∧ Below w3.heap.size w3 wr) (fun i _ => X.length - (intOf i).toNat)
    case atStart => exact ⟨0, _, Nat.zero_le _, rfl, mulI.zero X Y, HO4.out, HB4.out⟩
    case round =>
      obtain ⟨i, o, hi, rfl, hM, hown, hbl⟩ := hrel
      have HM := Lib.hid hM
      have HO := Lib.hid hown
      clear hM hown
      by_cases hlt : i < X.length
      · obtain ⟨g, rfl, hg1, hg2⟩ := OwnI.at HV.out (by omega)
        have hxr := RX.out _ (List.getElem_mem hlt)
        have hcx := (OwnI.below HV.out hbl).cell i hlt
        generalize hgx : X[i] = x at *
        have HGX := Lib.hid hgx
        have HXR := Lib.hid hxr
        clear hgx hcx hxr
        obtain ⟨wo, rfl⟩ : ∃ wo, wo = wr := ⟨_, rfl⟩
        go_wp2_with fail
        go_loopw [11] (fun j wr => ∃ (k : Nat) (o : List Int), k ≤ Y.length ∧ j = .int .i64 k ∧ mulI X Y o i k x ∧ OwnZ wr w3.heap.size (.slice (some ⟨w3.heap.size, 0, none⟩) (X.length + Y.length) (X.length + Y.length)) o ∧ Below w3.heap.size w3 wr) (fun j _ => Y.length - (intOf j).toNat)
        case atStart => exact ⟨0, o, Nat.zero_le _, rfl, HM.out.begin, HO.out, hbl⟩
        case round =>
          clear hbl
          obtain ⟨j, o', hj, rfl, hM', hown', hbl'⟩ := hrel
          have HM' := Lib.hid hM'
          clear hM'
          by_cases hltj : j < Y.length
          · obtain ⟨g', rfl, hg3, hg4⟩ := OwnI.at HU.out (by omega)
            have hyr := RY.out _ (List.getElem_mem hltj)
            have hcx := (OwnI.below HV.out hbl').cell i hlt
            rw [HGX.out] at hcx
            have hcy := (OwnI.below HU.out hbl').cell j hltj
            generalize hgy : Y[j] = y at *
            have HGY := Lib.hid hgy
            clear hgy
            have hij : i + j < o'.length := by rw [HM'.out.len]; omega
            have hcl := hown'.cell (i + j) hij
            have hfl := hown'.frozen (i + j)
            have hls := HM'.out.rng o'[i + j] (List.getElem_mem _)
            generalize hgl : o'[i + j] = l at *
            have HGL := Lib.hid hgl
            clear hgl
            obtain ⟨xy1, xy2⟩ := mul_small HXR.out hyr
            obtain ⟨l1, l2⟩ := hls
            have l3 : l ≤ 8589934592 := by omega
            clear l2 hyr
            have HST := Lib.hid (hown'.stored (i + j) (l + x * y))
            go_wp2_with fail
            go_region
            go_wp2_with fail
            go_roundw
            case rel => exact ⟨j + 1, _, by omega, by go_num, HM'.out.set hltj hij HGY.out HGL.out ⟨xy1, xy2⟩, (HST.out.1).drew, (hbl'.setCell (p := ⟨w3.heap.size, i + j, none⟩) (Nat.le_refl _) _).drew⟩
            case measure => simp [intOf]; omega
          · obtain rfl : j = Y.length := by omega
            go_wp2_with fail
            go_roundw
            case rel => exact ⟨i + 1, o', by omega, by go_num, HM'.out.next hlt HGX.out s2, hown', hbl'⟩
            case measure => simp [intOf]; omega
      · have hsum : vle o = ((nv a * nv b : Nat) : Int) := by
          rw [HM.out.done (by omega), VX.out, VY.out, Int.natCast_mul]
        have hnc := numcarry _ _ o wr (nv a * nv b) HO.out (fun x hx => by have := HM.out.rng x hx; omega) hsum (by rw [HM.out.len]; omega)
        have HNC := Lib.hid hnc
        clear hnc hsum
        go_wp2_with fail
        refine HNC.out.mono ?_
        rintro e w5 ⟨v', rfl, hb5, hn⟩
        have HN := Lib.hid hn
        clear hn
        go_wp2_with fail
        refine HN.out.mono ?_
        rintro e w6 ⟨rfl, hb6⟩
        go_wp2_with fail
        refine (rshort_any _ _).mono ?_
        rintro e w7 ⟨rfl, rfl⟩
        go_wp2_with fail
        go_ret2
        have hbw : Below w.heap.size w wr := HB3.out.trans (hbl.mono HB3.out.size)
        exact ⟨by rw [E.out]; rfl, hbw.trans (hb6.mono hbw.size)⟩
  · have E : Hid (mulF a b = (bE, chkN [a, b])) := Lib.hid (if_neg h)
    have HB := Lib.hid h_
    have h2 : (chkN [a, b] != 0) = true := by simpa using h
    clear h_ h
    go_enter Try.func64, Try.ntmps64
    go_wp2_with fail
    refine (HB.out _).mono ?_
    rintro e w1 ⟨rfl, rfl⟩
    go_wp2_with fail
    go_ret2
    exact ⟨by rw [E.out]; rfl, Below.refl _ _⟩

end Go.Proofs.Ytmcejefeloljiaa

/-
  The walks of the reference for naturals: divide, Div, Gcd.
-/
namespace Go.Proofs.Ytmcejefeloljiaa
set_option linter.unusedVariables false
set_option linter.unusedSimpArgs false
open Go.RowKit Nm

theorem div_step (P B c : Nat) (hB : 0 < B) : (P * 256 + c) / B = P / B * 256 + (P % B * 256 + c) / B ∧ (P * 256 + c) % B = (P % B * 256 + c) % B := by
  have h := Nat.div_add_mod P B
  have e : P * 256 + c = (P % B * 256 + c) + B * (P / B * 256) := by
    conv => lhs; rw [← h]
    rw [Nat.add_mul, Nat.mul_assoc]
    omega
  rw [e, Nat.add_mul_div_left _ _ hB, Nat.add_mul_mod_self_left]
  exact ⟨by omega, rfl⟩

theorem ext1 (a : ByteArray) (k : Nat) (h : k < a.size) : (a.extract k (k + 1)).data.toList = [a[k]] := by
  rw [ByteArray.data_extract, Array.toList_extract, List.extract_eq_take_drop]
  have := sdata_length a
  rw [show k + 1 - k = 1 by omega, List.drop_eq_getElem_cons (by omega)]
  rfl
theorem cat1 (R : Nat) (a : ByteArray) (k : Nat) (h : k < a.size) : (encS R ++ a.extract k (k + 1)).data.toList = enc R ++ [a[k]] := by
  rw [ByteArray.data_append, Array.toList_append, ext1 a k h]
  rfl
theorem head0 (s : ByteArray) (h : 0 < s.size) (l : List UInt8) (x : UInt8) (e : s.data.toList = x :: l) : s[0] = x := by
  show s.data.toList[0]'_ = x
  simp only [e]
  rfl
theorem cat_pos (R : Nat) (a : ByteArray) (k : Nat) (h : k < a.size) : 0 < (encS R ++ a.extract k (k + 1)).size := by
  rw [← sdata_length, cat1 R a k h]; simp
theorem same_text {s : ByteArray} {n : Nat} (h : s.data.toList = enc n) : s = encS n := by
  show s = ⟨(enc n).toArray⟩
  rw [← h]
theorem cat_z (R : Nat) (a : ByteArray) (k : Nat) (h : k < a.size) (e : Nat) (he : e = (encS R).size + (min (k + 1) a.size - k)) (hz : ((encS R ++ a.extract k (k + 1))[0]'(cat_pos R a k h)).toNat = 0) :
    (encS R ++ a.extract k (k + 1)).extract 1 e = encS (R * 256 + a[k].toNat) := by
  have hc := cat1 R a k h
  by_cases h0 : R = 0
  · subst h0
    have h1 := head0 _ (cat_pos 0 a k h) [] a[k] hc
    rw [h1] at hz
    apply same_text
    rw [hz, ByteArray.data_extract, Array.toList_extract, List.extract_eq_take_drop, hc]
    simp [enc_zero]
  · exfalso
    have hne := enc_ne_nil R (by omega)
    cases hl : enc R with
    | nil => exact hne hl
    | cons x l =>
      rw [hl] at hc
      have h1 := head0 _ (cat_pos R a k h) _ _ hc
      rw [h1] at hz
      have hn := natl_enc R
      rw [hl] at hn
      simp only [natl, bne_iff_ne] at hn
      exact hn (UInt8.toNat_inj.1 hz)
theorem cat_nz (R : Nat) (a : ByteArray) (k : Nat) (h : k < a.size) (hz : ¬ ((encS R ++ a.extract k (k + 1))[0]'(cat_pos R a k h)).toNat = 0) :
    encS R ++ a.extract k (k + 1) = encS (R * 256 + a[k].toNat) := by
  have hc := cat1 R a k h
  apply same_text
  rw [hc, enc_step R _ a[k].toNat_lt, if_neg]
  · simp
  · rintro ⟨rfl, h0⟩
    have h1 := head0 _ (cat_pos 0 a k h) [] a[k] hc
    rw [h1] at hz
    exact hz h0

theorem div_mod_of (t B n : Nat) (h1 : t * B ≤ n) (h2 : n - t * B < B) : t = n / B ∧ n - t * B = n % B := by
  have e : n = (n - t * B) + B * t := by rw [Nat.mul_comm B t]; omega
  have hB : 0 < B := by omega
  constructor
  · conv => rhs; rw [e]
    rw [Nat.add_mul_div_left _ _ hB, Nat.div_eq_of_lt h2, Nat.zero_add]
  · conv => rhs; rw [e]
    rw [Nat.add_mul_mod_self_left, Nat.mod_eq_of_lt h2]

set_option maxHeartbeats 4000000 in
theorem divide_ref (a b : ByteArray) (w : World) (n2 : isN b = true) (s1 : a.size ≤ 256) (s2 : b.size ≤ 256) (hB : 0 < nv b) :
    Calls Try.prog 111 #[.string a, .string b] w fun e w' => e = .returned (.tuple #[.string (encS (nv a / nv b)), .string (encS (nv a % nv b))]) ∧ Below w.heap.size w w' := by
  go_enter Try.func111, Try.ntmps111
  go_wp2_with fail
  go_loopw [6, 7, 8] (fun q r i wr => ∃ k : Nat, k ≤ a.size ∧ i = .int .i64 (k : Int) ∧ r = .string (encS (val (a.data.toList.take k) % nv b)) ∧ OwnB wr w.heap.size q (enc (val (a.data.toList.take k) / nv b)) ∧ Below w.heap.size w wr) (fun _ _ i _ => a.size - (intOf i).toNat)
  case atStart => exact ⟨0, Nat.zero_le _, rfl, by rw [List.take_zero, val_nil, Nat.zero_mod, encS0_eq'], by rw [List.take_zero, val_nil, Nat.zero_div]; exact OwnB.lit0 w, (Below.refl _ _).alloc (Nat.le_refl _) _⟩
  case round =>
    obtain ⟨k, hk, rfl, rfl, hq, hbl⟩ := hrel
    by_cases h0 : k < a.size
    · have hv_ := val_take_succ k h0
      have hc256 := a[k].toNat_lt
      have hvlt : nv b < 256 ^ 256 := by
        have h1 := val_lt b.data.toList
        rw [sdata_length] at h1
        exact Nat.lt_of_lt_of_le h1 (Nat.pow_le_pow_right (by omega) s2)
      have hR0 : val (a.data.toList.take k) % nv b < nv b := Nat.mod_lt _ hB
      have hQl : (enc (val (a.data.toList.take k) / nv b)).length ≤ 256 := by
        rw [enc_length_le]
        refine Nat.lt_of_le_of_lt (Nat.div_le_self _ _) (Nat.lt_of_le_of_lt (val_take_le k) ?_)
        have h1 := val_lt a.data.toList
        rw [sdata_length] at h1
        exact Nat.lt_of_lt_of_le h1 (Nat.pow_le_pow_right (by omega) s1)
      generalize hR : val (a.data.toList.take k) % nv b = R at *
      generalize hQ : val (a.data.toList.take k) / nv b = Q at *
      have HRB := Lib.hid hR
      have HQB := Lib.hid hQ
      have HRL := Lib.hid hR0
      have HQL := Lib.hid hQl
      have hcz := cat_z R a k h0 _ rfl
      have hcn := cat_nz R a k h0
      have hpos := cat_pos R a k h0
      have hsz : (encS R).size ≤ 256 := by
        rw [size_encS, enc_length_le]
        exact Nat.lt_trans hR0 hvlt
      have hpos2 : 0 < (encS R).size + (min (k + 1) a.size - k) := by omega
      have hRc : Hid ((enc (R * 256 + a[k].toNat)).length ≤ 257) := Lib.hid (by
        rw [enc_step R _ hc256]
        rw [size_encS] at hsz
        split
        · simp
        · rw [List.length_append]; simp; omega)
      generalize hc : a[k].toNat = c at *
      have HV := Lib.hid hv_
      have HC := Lib.hid hc256
      clear hR hQ hvlt hR0 hQl hv_ hc hc256
      by_cases hz : ((encS R ++ a.extract k (k + 1))[0]'hpos).toNat = 0
      · have hz' : ((((encS R ++ a.extract k (k + 1))[0]'hpos).toNat : Int) == 0) = true := by
          rw [hz]; rfl
        replace hcz := Lib.hid (hcz hz)
        clear hcn
        have hr : (encS R ++ a.extract k (k + 1)).extract 1 ((encS R).size + (min (k + 1) a.size - k)) = encS (R * 256 + c) := hcz.out
        go_wp2_with fail
        clear hr hz hz'
        obtain ⟨wo, rfl⟩ : ∃ wo, wo = wr := ⟨_, rfl⟩
        go_loopw [7, 9] (fun r d wq => ∃ t : Nat, d = .int .i64 (t : Int) ∧ r = .string (encS (R * 256 + c - t * nv b)) ∧ t * nv b ≤ R * 256 + c ∧ Below wo.heap.size wo wq) (fun _ d _ => R * 256 + c + 1 - (intOf d).toNat)
        case atStart => exact ⟨0, rfl, by rw [Nat.zero_mul]; rfl, by omega, Below.refl _ _⟩
        case round =>
          obtain ⟨t, rfl, rfl, ht, hbq⟩ := hrel
          have htR : t ≤ R * 256 + c := Nat.le_trans (by have := Nat.mul_le_mul_left t hB; omega) ht
          have hm1 := isN_encS (R * 256 + c - t * nv b)
          have hs1 : (encS (R * 256 + c - t * nv b)).size ≤ 257 := by
            rw [size_encS]
            exact Nat.le_trans (enc_len_mono (Nat.sub_le _ _)) hRc.out
          have hl := fun w => less_ref (encS (R * 256 + c - t * nv b)) b w hm1 n2 (by unfold maxLen; omega) (by unfold maxLen; omega)
          rw [nv_encS] at hl
          by_cases hlt : R * 256 + c - t * nv b < nv b
          · rw [decide_eq_true hlt] at hl
            obtain ⟨hd1, hd2⟩ := div_mod_of t (nv b) (R * 256 + c) ht hlt
            have ht256 : t < 256 := by
              rw [hd1]
              rw [Nat.div_lt_iff_lt_mul hB]
              have : R < nv b := HRL.out
              have := HC.out
              omega
            rw [hd2] at hl ⊢
            have HD1 := Lib.hid hd1
            have hbq2 : Below w.heap.size w wr := hbl.trans (hbq.mono hbl.size)
            have hq2 := hq.below hbq
            obtain ⟨ob, cb, hv, hcb, hcbm⟩ := hq2.shp
            rw [List.length_map] at hv hcb
            subst hv
            have hQl := (enc_length_le Q 256)
            have hl2 : ((enc Q).map UInt8.toNat).length + 1 ≤ 4294967296 := by
              rw [List.length_map]
              have := HQL.out
              omega
            have HQE := Lib.hid (enc_step Q t ht256)
            have hP := HV.out
            have hnext := div_step (val (a.data.toList.take k)) (nv b) c hB
            rw [HRB.out, HQB.out, ← hP] at hnext
            have HN := Lib.hid hnext
            have htw : ((UInt8.ofNat t).toNat : Int) = t := by
              have : (UInt8.ofNat t).toNat = t := by simp; omega
              omega
            have HTW := Lib.hid htw
            have HL := Lib.hid hl
            clear hnext hP hd1 hd2 hlt hl hs1 hm1 ht hQl htw hq htR
            by_cases htp : 0 < t
            · skip
              have HQ2 : Hid (enc (Q * 256 + t) = enc Q ++ [UInt8.ofNat t]) := Lib.hid (by rw [HQE.out, if_neg]; rintro ⟨h1, h2⟩; omega)
              go_wp2_with fail
              refine (HL.out _).mono ?_
              rintro e w5 ⟨rfl, n5, rfl⟩
              go_wp2_with (at_builtin; refine append1 (wr.drewN n5) rfl _ _ 149 rfl w.heap.size 5 .u8 1 info_u8 Try.underlying149 _ ((enc Q).map UInt8.toNat) (hq2.drewN n5) rfl _ _ (UInt8.ofNat t).toNat HTW.out.symm rfl hl2 (by omega) hbq2.size ?_)
              intro v' w6 hown' hgrow
              have hbl6 := grown_below (below_drewN hbq2 n5) (hq2.drewN n5) hgrow hbq2.size
              clear hgrow hq2 hbq2
              go_wp2_with fail
              go_roundw
              case rel => exact ⟨k + 1, by omega, by go_num, by rw [HN.out.2], by rw [HN.out.1, ← HD1.out, HQ2.out]; unfold OwnB; simpa using hown', hbl6⟩
              case measure => simp [intOf]; omega
            · obtain rfl : t = 0 := by omega
              by_cases hqp : 0 < (enc Q).length
              · skip
                have HQ2 : Hid (enc (Q * 256 + 0) = enc Q ++ [UInt8.ofNat 0]) := Lib.hid (by rw [HQE.out, if_neg]; rintro ⟨h1, h2⟩; subst h1; simp [enc_zero] at hqp)
                go_wp2_with fail
                refine (HL.out _).mono ?_
                rintro e w5 ⟨rfl, n5, rfl⟩
                go_wp2_with (at_builtin; refine append1 (wr.drewN n5) rfl _ _ 149 rfl w.heap.size 5 .u8 1 info_u8 Try.underlying149 _ ((enc Q).map UInt8.toNat) (hq2.drewN n5) rfl _ _ (UInt8.ofNat 0).toNat HTW.out.symm rfl hl2 (by omega) hbq2.size ?_)
                intro v' w6 hown' hgrow
                have hbl6 := grown_below (below_drewN hbq2 n5) (hq2.drewN n5) hgrow hbq2.size
                clear hgrow hq2 hbq2
                go_wp2_with fail
                go_roundw
                case rel => exact ⟨k + 1, by omega, by go_num, by rw [HN.out.2], by rw [HN.out.1, ← HD1.out, HQ2.out]; unfold OwnB; simpa using hown', hbl6⟩
                case measure => simp [intOf]; omega
              · have hq0 : Q = 0 := by
                  apply Decidable.byContradiction
                  intro h
                  have := List.length_pos_iff.2 (enc_ne_nil Q (by omega))
                  omega
                have HQ0 := Lib.hid hq0
                clear hq0
                go_wp2_with fail
                refine (HL.out _).mono ?_
                rintro e w5 ⟨rfl, n5, rfl⟩
                go_wp2_with fail
                go_roundw
                case rel => exact ⟨k + 1, by omega, by go_num, by rw [HN.out.2], by rw [HN.out.1, ← HD1.out, HQE.out, if_pos ⟨HQ0.out, trivial⟩]; have h := hq2.drewN n5; rw [HQ0.out, enc_zero] at h; rw [HQ0.out] ; exact h, below_drewN hbq2 n5⟩
                case measure => simp [intOf]; omega
          · rw [decide_eq_false hlt] at hl
            have HL := Lib.hid hl
            have ht2 : (t + 1) * nv b ≤ R * 256 + c := by rw [Nat.add_mul]; omega
            have hmin := fun w => minus_any (encS (R * 256 + c - t * nv b)) b w (by omega) (size_le_of hm1 n2 (by rw [nv_encS]; omega)) (by rw [nv_encS]; omega)
            rw [nv_encS, show R * 256 + c - t * nv b - nv b = R * 256 + c - (t + 1) * nv b by rw [Nat.add_mul]; omega] at hmin
            have HM := Lib.hid hmin
            have HT2 := Lib.hid ht2
            have htb : (t : Int) < 9223372036854775800 := by
              have h1 : t < 65536 := by
                have : R < nv b := HRL.out
                have h2 : t * nv b ≤ R * 256 + c := ht
                have h3 : R * 256 + c < 256 * nv b := by have := HC.out; omega
                have h4 : t < 256 := by
                  apply Decidable.byContradiction
                  intro hc
                  have := Nat.mul_le_mul_right (nv b) (show 256 ≤ t by omega)
                  omega
                omega
              omega
            have HTR : Hid (t < R * 256 + c) := Lib.hid (by
              have h1 := Nat.mul_le_mul_left (t + 1) hB
              omega)
            clear hl hlt hmin hs1 hm1 ht ht2 htR
            go_wp2_with fail
            refine (HL.out _).mono ?_
            rintro e w5 ⟨rfl, n5, rfl⟩
            go_wp2_with fail
            refine (HM.out _).mono ?_
            rintro e w6 ⟨rfl, hb6⟩
            go_wp2_with fail
            go_roundw
            case rel => exact ⟨t + 1, by go_num, rfl, HT2.out, hbq.trans ((below_drewN (Below.refl _ _) n5).trans (hb6.mono hbq.size))⟩
            case measure => have := HTR.out; simp [intOf]; omega
      · have hz' : ((((encS R ++ a.extract k (k + 1))[0]'hpos).toNat : Int) == 0) = false := by
          rw [beq_eq_false_iff_ne]; omega
        replace hcn := Lib.hid (hcn hz)
        clear hcz
        go_wp2_with fail
        generalize ((encS R ++ a.extract k (k + 1))[0]'hpos).toNat = z0 at *
        generalize encS R ++ a.extract k (k + 1) = T at *
        obtain rfl := hcn.out
        clear hz hz' hcn
        obtain ⟨wo, rfl⟩ : ∃ wo, wo = wr := ⟨_, rfl⟩
        go_loopw [7, 9] (fun r d wq => ∃ t : Nat, d = .int .i64 (t : Int) ∧ r = .string (encS (R * 256 + c - t * nv b)) ∧ t * nv b ≤ R * 256 + c ∧ Below wo.heap.size wo wq) (fun _ d _ => R * 256 + c + 1 - (intOf d).toNat)
        case atStart => exact ⟨0, rfl, by rw [Nat.zero_mul]; rfl, by omega, Below.refl _ _⟩
        case round =>
          obtain ⟨t, rfl, rfl, ht, hbq⟩ := hrel
          have htR : t ≤ R * 256 + c := Nat.le_trans (by have := Nat.mul_le_mul_left t hB; omega) ht
          have hm1 := isN_encS (R * 256 + c - t * nv b)
          have hs1 : (encS (R * 256 + c - t * nv b)).size ≤ 257 := by
            rw [size_encS]
            exact Nat.le_trans (enc_len_mono (Nat.sub_le _ _)) hRc.out
          have hl := fun w => less_ref (encS (R * 256 + c - t * nv b)) b w hm1 n2 (by unfold maxLen; omega) (by unfold maxLen; omega)
          rw [nv_encS] at hl
          by_cases hlt : R * 256 + c - t * nv b < nv b
          · rw [decide_eq_true hlt] at hl
            obtain ⟨hd1, hd2⟩ := div_mod_of t (nv b) (R * 256 + c) ht hlt
            have ht256 : t < 256 := by
              rw [hd1]
              rw [Nat.div_lt_iff_lt_mul hB]
              have : R < nv b := HRL.out
              have := HC.out
              omega
            rw [hd2] at hl ⊢
            have HD1 := Lib.hid hd1
            have hbq2 : Below w.heap.size w wr := hbl.trans (hbq.mono hbl.size)
            have hq2 := hq.below hbq
            obtain ⟨ob, cb, hv, hcb, hcbm⟩ := hq2.shp
            rw [List.length_map] at hv hcb
            subst hv
            have hQl := (enc_length_le Q 256)
            have hl2 : ((enc Q).map UInt8.toNat).length + 1 ≤ 4294967296 := by
              rw [List.length_map]
              have := HQL.out
              omega
            have HQE := Lib.hid (enc_step Q t ht256)
            have hP := HV.out
            have hnext := div_step (val (a.data.toList.take k)) (nv b) c hB
            rw [HRB.out, HQB.out, ← hP] at hnext
            have HN := Lib.hid hnext
            have htw : ((UInt8.ofNat t).toNat : Int) = t := by
              have : (UInt8.ofNat t).toNat = t := by simp; omega
              omega
            have HTW := Lib.hid htw
            have HL := Lib.hid hl
            clear hnext hP hd1 hd2 hlt hl hs1 hm1 ht hQl htw hq htR
            by_cases htp : 0 < t
            · skip
              have HQ2 : Hid (enc (Q * 256 + t) = enc Q ++ [UInt8.ofNat t]) := Lib.hid (by rw [HQE.out, if_neg]; rintro ⟨h1, h2⟩; omega)
              go_wp2_with fail
              refine (HL.out _).mono ?_
              rintro e w5 ⟨rfl, n5, rfl⟩
              go_wp2_with (at_builtin; refine append1 (wr.drewN n5) rfl _ _ 149 rfl w.heap.size 5 .u8 1 info_u8 Try.underlying149 _ ((enc Q).map UInt8.toNat) (hq2.drewN n5) rfl _ _ (UInt8.ofNat t).toNat HTW.out.symm rfl hl2 (by omega) hbq2.size ?_)
              intro v' w6 hown' hgrow
              have hbl6 := grown_below (below_drewN hbq2 n5) (hq2.drewN n5) hgrow hbq2.size
              clear hgrow hq2 hbq2
              go_wp2_with fail
              go_roundw
              case rel => exact ⟨k + 1, by omega, by go_num, by rw [HN.out.2], by rw [HN.out.1, ← HD1.out, HQ2.out]; unfold OwnB; simpa using hown', hbl6⟩
              case measure => simp [intOf]; omega
            · obtain rfl : t = 0 := by omega
              by_cases hqp : 0 < (enc Q).length
              · skip
                have HQ2 : Hid (enc (Q * 256 + 0) = enc Q ++ [UInt8.ofNat 0]) := Lib.hid (by rw [HQE.out, if_neg]; rintro ⟨h1, h2⟩; subst h1; simp [enc_zero] at hqp)
                go_wp2_with fail
                refine (HL.out _).mono ?_
                rintro e w5 ⟨rfl, n5, rfl⟩
                go_wp2_with (at_builtin; refine append1 (wr.drewN n5) rfl _ _ 149 rfl w.heap.size 5 .u8 1 info_u8 Try.underlying149 _ ((enc Q).map UInt8.toNat) (hq2.drewN n5) rfl _ _ (UInt8.ofNat 0).toNat HTW.out.symm rfl hl2 (by omega) hbq2.size ?_)
                intro v' w6 hown' hgrow
                have hbl6 := grown_below (below_drewN hbq2 n5) (hq2.drewN n5) hgrow hbq2.size
                clear hgrow hq2 hbq2
                go_wp2_with fail
                go_roundw
                case rel => exact ⟨k + 1, by omega, by go_num, by rw [HN.out.2], by rw [HN.out.1, ← HD1.out, HQ2.out]; unfold OwnB; simpa using hown', hbl6⟩
                case measure => simp [intOf]; omega
              · have hq0 : Q = 0 := by
                  apply Decidable.byContradiction
                  intro h
                  have := List.length_pos_iff.2 (enc_ne_nil Q (by omega))
                  omega
                have HQ0 := Lib.hid hq0
                clear hq0
                go_wp2_with fail
                refine (HL.out _).mono ?_
                rintro e w5 ⟨rfl, n5, rfl⟩
                go_wp2_with fail
                go_roundw
                case rel => exact ⟨k + 1, by omega, by go_num, by rw [HN.out.2], by rw [HN.out.1, ← HD1.out, HQE.out, if_pos ⟨HQ0.out, trivial⟩]; have h := hq2.drewN n5; rw [HQ0.out, enc_zero] at h; rw [HQ0.out] ; exact h, below_drewN hbq2 n5⟩
                case measure => simp [intOf]; omega
          · rw [decide_eq_false hlt] at hl
            have HL := Lib.hid hl
            have ht2 : (t + 1) * nv b ≤ R * 256 + c := by rw [Nat.add_mul]; omega
            have hmin := fun w => minus_any (encS (R * 256 + c - t * nv b)) b w (by omega) (size_le_of hm1 n2 (by rw [nv_encS]; omega)) (by rw [nv_encS]; omega)
            rw [nv_encS, show R * 256 + c - t * nv b - nv b = R * 256 + c - (t + 1) * nv b by rw [Nat.add_mul]; omega] at hmin
            have HM := Lib.hid hmin
            have HT2 := Lib.hid ht2
            have htb : (t : Int) < 9223372036854775800 := by
              have h1 : t < 65536 := by
                have : R < nv b := HRL.out
                have h2 : t * nv b ≤ R * 256 + c := ht
                have h3 : R * 256 + c < 256 * nv b := by have := HC.out; omega
                have h4 : t < 256 := by
                  apply Decidable.byContradiction
                  intro hc
                  have := Nat.mul_le_mul_right (nv b) (show 256 ≤ t by omega)
                  omega
                omega
              omega
            have HTR : Hid (t < R * 256 + c) := Lib.hid (by
              have h1 := Nat.mul_le_mul_left (t + 1) hB
              omega)
            clear hl hlt hmin hs1 hm1 ht ht2 htR
            go_wp2_with fail
            refine (HL.out _).mono ?_
            rintro e w5 ⟨rfl, n5, rfl⟩
            go_wp2_with fail
            refine (HM.out _).mono ?_
            rintro e w6 ⟨rfl, hb6⟩
            go_wp2_with fail
            go_roundw
            case rel => exact ⟨t + 1, by go_num, rfl, HT2.out, hbq.trans ((below_drewN (Below.refl _ _) n5).trans (hb6.mono hbq.size))⟩
            case measure => have := HTR.out; simp [intOf]; omega
    · obtain rfl : k = a.size := by omega
      have e1 : val (a.data.toList.take a.size) = nv a := by
        rw [List.take_of_length_le (by rw [sdata_length]; omega)]
        rfl
      rw [e1] at hq ⊢
      have hcv := fun d hd => OwnN.str (P := Try.prog) hq 149 d Try.underlying149 Try.underlying5 hd
      obtain ⟨ob, cb, hv, hcb, hcbm⟩ := hq.shp
      rw [List.length_map] at hv hcb
      subst hv
      clear e1
      go_wp2_with fail
      go_ret2
      exact ⟨rfl, hbl⟩

end Go.Proofs.Ytmcejefeloljiaa

/-
  Facts about numbers and texts.
-/
namespace Go.Proofs.Ytmcejefeloljiaa
set_option linter.unusedVariables false
set_option linter.unusedSimpArgs false
open Go.RowKit Nm

theorem encS0_eq : encS 0 = ⟨#[]⟩ := by rw [← bE_encS]; rfl
theorem encS0_empty : (encS 0).toList.isEmpty = true := by rw [encS0_eq]; decide +kernel
theorem chk_way {a b : ByteArray} (h : chkN [a, b] ≠ 0) :
    (chkN [a, b] = 2 ∨ chkN [a, b] = 60) ∧ ((chkN [a] = 2 ∨ chkN [a] = 60) ∨ (chkN [a] = 0 ∧ (chkN [b] = 2 ∨ chkN [b] = 60))) := by
  simp only [chkN, List.all_cons, List.all_nil, Bool.and_true] at *
  generalize isN a = x at *
  generalize isN b = y at *
  generalize decide (a.size ≤ 256) = u at *
  generalize decide (b.size ≤ 256) = v at *
  cases x <;> cases y <;> cases u <;> cases v <;> revert h <;> decide
theorem size_bE {b : ByteArray} (h : b.size = 0) : b = bE := by
  have h' : b.data = #[] := Array.eq_empty_of_size_eq_zero h
  show b = ⟨#[]⟩
  rw [← h']
theorem size_ne {b : ByteArray} (h : ¬ b.size = 0) : ¬ b.toList = [] := by
  intro hc
  have := isEmpty_false (s := b) (by omega)
  rw [hc] at this
  cases this
theorem bE_nil : bE.toList = [] := by decide +kernel
theorem enc0_nil : (encS 0).toList = [] := bE_nil
theorem mod_nil {n : Nat} (h : n = 0) : (encS n).toList = [] := by rw [h]; exact enc0_nil
theorem mod_ne {n : Nat} (h : ¬ n = 0) : ¬ (encS n).toList = [] := by
  apply size_ne
  intro hc
  apply h
  have := nv_encS n
  rw [size_bE hc] at this
  rw [← this]
  decide +kernel
theorem chk_bad {a : ByteArray} (h : ¬ chkN [a] = 0) : chkN [a] = 2 ∨ chkN [a] = 60 := by
  simp only [chkN, List.all_cons, List.all_nil, Bool.and_true] at *
  generalize isN a = x at *
  generalize decide (a.size ≤ 256) = u at *
  cases x <;> cases u <;> revert h <;> decide
theorem pos_ne {n : Nat} (h : 0 < n) : ¬ (encS n).toList = [] := mod_ne (by omega)
theorem sm60 {n : Nat} (h : (encS n).size ≤ 60) : Sm n := by
  rw [size_encS] at h
  show (enc n).length ≤ 256
  omega
theorem gcd_len {A B k : Nat} (ha : (encS A).size ≤ k) (hb : (encS B).size ≤ k) : (encS (Nat.gcd A B)).size ≤ k := by
  rw [size_encS] at *
  by_cases h : 0 < A
  · exact Nat.le_trans (enc_len_mono (Nat.gcd_le_left B h)) ha
  · obtain rfl : A = 0 := by omega
    rw [Nat.gcd_zero_left]
    exact hb
theorem mul_len {A B : Nat} (ha : (encS A).size ≤ 60) (hb : (encS B).size ≤ 60) : Sm (A * B) := by
  rw [size_encS] at *
  have := enc_len_mul A B
  show (enc (A * B)).length ≤ 256
  omega
theorem cmp_neg {m n : Nat} (h : m < n) : cmpN m n < 0 := by rw [cmpN_lt h]; decide
theorem cmp_pos {m n : Nat} (h : n ≤ m) : 0 ≤ cmpN m n := by
  unfold cmpN
  split
  · omega
  · split <;> omega
theorem add_big {m n : Nat} (h : ¬ Sm (m + n)) : 255 ≤ (encS m).size ∨ ((encS m).size < 255 ∧ 255 ≤ (encS n).size) := by
  rw [size_encS, size_encS]
  apply Decidable.byContradiction
  intro hc
  exact h (enc_len_add m n 255 (by omega) (by omega))
theorem mul_big {m n : Nat} (h : ¬ Sm (m * n)) : 256 < (encS m).size + (encS n).size := by
  rw [size_encS, size_encS]
  apply Decidable.byContradiction
  intro hc
  exact h (Nat.le_trans (enc_len_mul m n) (by omega))
theorem pos_ie {n : Nat} (h : 0 < n) : (encS n).toList.isEmpty = false := by
  have := pos_ne h
  cases hc : (encS n).toList.isEmpty
  · rfl
  · exact absurd (List.isEmpty_iff.1 hc) this
theorem wrap_big {m n : Nat} (h : 256 < m + n) (hm : m ≤ 256) (hn : n ≤ 256) : decide ((256 : Int) < wrap64 (↑m + ↑n)) = true := by
  rw [decide_eq_true_iff]
  have e : wrap64 ((m : Int) + n) = m + n := by unfold wrap64; omega
  rw [e]
  omega
theorem int_div_nat (n m : Nat) : Int.tdiv ↑n ↑m = ((n / m : Nat) : Int) := (Int.ofNat_tdiv n m).symm
theorem int_mod_nat (n m : Nat) : Int.tmod ↑n ↑m = ((n % m : Nat) : Int) := (Int.ofNat_tmod n m).symm

end Go.Proofs.Ytmcejefeloljiaa

/-
  The walks of the reference for naturals: Div, Gcd, Few.
-/
namespace Go.Proofs.Ytmcejefeloljiaa
set_option linter.unusedVariables false
set_option linter.unusedSimpArgs false
open Go.RowKit Nm

set_option maxHeartbeats 1000000 in
theorem rDiv_any (a b : ByteArray) (w : World) :
    Calls Try.prog 55 #[.string a, .string b] w fun e w' => e = .returned (.tuple #[.string (divF a b).1, .string (divF a b).2.1, .int .i64 (divF a b).2.2]) ∧ Below w.heap.size w w' := by
  have h_ := fun w => both_any a b w
  by_cases h : chkN [a, b] = 0
  · obtain ⟨n1, n2, s1, s2⟩ := chk2_zero h
    rw [h] at h_
    have HB := Lib.hid h_
    by_cases h0 : 0 < nv b
    · have E : Hid (divF a b = (encS (nv a / nv b), encS (nv a % nv b), 0)) := Lib.hid (by rw [divF, if_pos h, if_neg (by omega)])
      have HM := Lib.hid (fun w => divide_ref a b w n2 s1 s2 h0)
      have hn : b.toList.isEmpty = false := by
        have := pos_ie h0
        rw [encS_nv b n2] at this
        exact this
      clear h_ h h0
      go_enter Try.func55, Try.ntmps55
      go_wp2_with fail
      refine (HB.out _).mono ?_
      rintro e w1 ⟨rfl, rfl⟩
      go_wp2_with fail
      refine (HM.out _).mono ?_
      rintro e w2 ⟨rfl, hb2⟩
      go_wp2_with fail
      go_ret3
      exact ⟨by rw [E.out]; rfl, hb2⟩
    · have h1 : nv b = 0 := by omega
      have E : Hid (divF a b = (bE, bE, 71)) := Lib.hid (by rw [divF, if_pos h, if_pos h1])
      have hn : b.toList.isEmpty = true := by
        have := encS0_empty
        rw [← h1, encS_nv b n2] at this
        exact this
      clear h_ h h0 h1
      go_enter Try.func55, Try.ntmps55
      go_wp2_with fail
      refine (HB.out _).mono ?_
      rintro e w1 ⟨rfl, rfl⟩
      go_wp2_with fail
      go_ret3
      exact ⟨by rw [E.out]; rfl, Below.refl _ _⟩
  · have E : Hid (divF a b = (bE, bE, chkN [a, b])) := Lib.hid (if_neg h)
    have HB := Lib.hid h_
    have h2 : (chkN [a, b] != 0) = true := by simpa using h
    clear h_ h
    go_enter Try.func55, Try.ntmps55
    go_wp2_with fail
    refine (HB.out _).mono ?_
    rintro e w1 ⟨rfl, rfl⟩
    go_wp2_with fail
    go_ret3
    exact ⟨by rw [E.out]; rfl, Below.refl _ _⟩

/-- the number of a text -/
def numOf : Value → Nat
  | .string s => nv s
  | _ => 0

set_option maxHeartbeats 1000000 in
theorem rGcd_any (a b : ByteArray) (w : World) :
    Calls Try.prog 62 #[.string a, .string b] w fun e w' => e = .returned (.tuple #[.string (gcdF a b).1, .int .i64 (gcdF a b).2]) ∧ Below w.heap.size w w' := by
  have h_ := fun w => both_any a b w
  by_cases h : chkN [a, b] = 0
  · obtain ⟨n1, n2, s1, s2⟩ := chk2_zero h
    rw [h] at h_
    have HB := Lib.hid h_
    have E : Hid (gcdF a b = (encS (Nat.gcd (nv a) (nv b)), 0)) := Lib.hid (if_pos h)
    obtain ⟨ea, sA⟩ := natE n1 s1
    obtain ⟨eb, sB⟩ := natE n2 s2
    have EA := Lib.hid ea
    have EB := Lib.hid eb
    clear h_ h ea eb n1 n2 s1 s2
    go_enter Try.func62, Try.ntmps62
    go_wp2_with fail
    refine (HB.out _).mono ?_
    rintro e w1 ⟨rfl, rfl⟩
    go_wp2_with fail
    go_loopw [0, 1] (fun x y wr => ∃ A B : Nat, x = .string (encS A) ∧ y = .string (encS B) ∧ Sm A ∧ Sm B ∧ Nat.gcd A B = Nat.gcd (nv a) (nv b) ∧ Below w.heap.size w wr) (fun _ y _ => numOf y)
    case atStart => exact ⟨nv a, nv b, by rw [← EA.out], by rw [← EB.out], sA, sB, rfl, Below.refl _ _⟩
    case round =>
      obtain ⟨A, B, rfl, rfl, hA, hB, hg, hbl⟩ := hrel
      have HG := Lib.hid hg
      clear hg
      by_cases h0 : 0 < B
      · have hn := pos_ie h0
        have hd := fun w => divide_ref (encS A) (encS B) w (isN_encS B) hA.size hB.size (by rw [nv_encS]; exact h0)
        simp only [nv_encS] at hd
        have HD := Lib.hid hd
        clear hd
        go_wp2_with fail
        refine (HD.out _).mono ?_
        rintro e w2 ⟨rfl, hb2⟩
        go_wp2_with fail
        go_roundw
        case rel => exact ⟨B, A % B, rfl, rfl, hB, hA.mono (Nat.mod_le _ _), by rw [← HG.out, Nat.gcd_comm B, ← Nat.gcd_rec, Nat.gcd_comm], hbl.trans (hb2.mono hbl.size)⟩
        case measure =>
          show nv (encS (A % B)) < nv (encS B)
          rw [nv_encS, nv_encS]
          exact Nat.mod_lt _ h0
      · obtain rfl : B = 0 := by omega
        have hn := encS0_empty
        go_wp2_with fail
        go_ret2
        exact ⟨by rw [E.out, ← HG.out, Nat.gcd_zero_right]; rfl, hbl⟩
  · have E : Hid (gcdF a b = (bE, chkN [a, b])) := Lib.hid (if_neg h)
    have HB := Lib.hid h_
    have h2 : (chkN [a, b] != 0) = true := by simpa using h
    clear h_ h
    go_enter Try.func62, Try.ntmps62
    go_wp2_with fail
    refine (HB.out _).mono ?_
    rintro e w1 ⟨rfl, rfl⟩
    go_wp2_with fail
    go_ret2
    exact ⟨by rw [E.out]; rfl, Below.refl _ _⟩

end Go.Proofs.Ytmcejefeloljiaa

/-
  The contracts of the reference of chapter 06, as a table for the symbolic executor.
-/
namespace Go.Proofs.Ytmcejefeloljiaa
set_option linter.unusedVariables false
open Go.RowKit Nm Go.SX

def refCon : ECon := fun f =>
  match f with
  | 56 => some (two addF)
  | 64 => some (two mulF)
  | 66 => some (two subF)
  | 62 => some (two gcdF)
  | 65 => some fun vs => match vs with
    | [.string a, .string b] => .need (szB a && szB b) (.ok (.ret (.tup [.val (.int .i64 (cmpF a b).1), .val (.int .i64 (cmpF a b).2)])))
    | _ => .no
  | 55 => some fun vs => match vs with
    | [.string a, .string b] => .need (szB a && szB b) (.ok (.ret (.tup [.val (.string (divF a b).1), .val (.string (divF a b).2.1), .val (.int .i64 (divF a b).2.2)])))
    | _ => .no
  | 61 => some fun vs => match vs with
    | [.string a] => .need (szB a) (.ok (.ret (.val (.int .i64 (chkN [a])))))
    | _ => .no
  | 104 => some fun vs => match vs with
    | [.int .i64 n] => .need (inI n) (.ok (.ret (.tup [.val (.string (ofF n).1), .val (.int .i64 (ofF n).2)])))
    | _ => .no
  | 117 => some fun vs => match vs with
    | [.string a] => .need (szB a) (.ok (.ret (.tup [.val (.int .i64 (intF a).1), .val (.bool (intF a).2)])))
    | _ => .no
  | f => apiCon f
theorem refCon_ok : EConOk Try.prog refCon := by
  intro f h hf
  unfold refCon at hf
  split at hf
  · cases hf; exact ⟨⟨_, Try.func56, rfl⟩, two_ok fun a b w ha hb => rAdd_any a b w⟩
  · cases hf; exact ⟨⟨_, Try.func64, rfl⟩, two_ok fun a b w ha hb => rMul_any a b w⟩
  · cases hf; exact ⟨⟨_, Try.func66, rfl⟩, two_ok fun a b w ha hb => rSub_any a b w⟩
  · cases hf; exact ⟨⟨_, Try.func62, rfl⟩, two_ok fun a b w ha hb => rGcd_any a b w⟩
  · cases hf
    refine ⟨⟨_, Try.func65, rfl⟩, fun vs e he => ?_⟩
    simp only at he
    split at he
    · obtain ⟨h1, h2⟩ := R3.need_some he
      cases h2
      rw [Bool.and_eq_true, szB_iff, szB_iff] at h1
      exact ⟨_, rfl, fun w => (rCompare_any _ _ w h1.1 h1.2).mono fun e' w' ⟨h3, k, h4⟩ => ⟨h3, h4 ▸ below_drewN (Below.refl _ _) k⟩⟩
    · cases he
  · cases hf
    refine ⟨⟨_, Try.func55, rfl⟩, fun vs e he => ?_⟩
    simp only at he
    split at he
    · obtain ⟨h1, h2⟩ := R3.need_some he
      cases h2
      exact ⟨_, rfl, fun w => rDiv_any _ _ w⟩
    · cases he
  · cases hf
    refine ⟨⟨_, Try.func61, rfl⟩, fun vs e he => ?_⟩
    simp only at he
    split at he
    · obtain ⟨h1, h2⟩ := R3.need_some he
      cases h2
      exact ⟨_, rfl, fun w => (rCheck_any _ w (szB_iff.1 h1)).mono fun e' w' h => ⟨h.1, by rw [← h.2]; exact Below.refl _ _⟩⟩
    · cases he
  · cases hf
    refine ⟨⟨_, Try.func104, rfl⟩, fun vs e he => ?_⟩
    simp only at he
    split at he
    · obtain ⟨h1, h2⟩ := R3.need_some he
      cases h2
      unfold inI at h1
      rw [Bool.and_eq_true] at h1
      exact ⟨_, rfl, fun w => rOf_any _ w (of_decide_eq_true h1.1) (of_decide_eq_true h1.2)⟩
    · cases he
  · cases hf
    refine ⟨⟨_, Try.func117, rfl⟩, fun vs e he => ?_⟩
    simp only at he
    split at he
    · obtain ⟨h1, h2⟩ := R3.need_some he
      cases h2
      exact ⟨_, rfl, fun w => (rInt_any _ w (szB_iff.1 h1)).mono fun e' w' h => ⟨h.1, by rw [← h.2]; exact Below.refl _ _⟩⟩
    · cases he
  · exact apiCon_ok _ _ hf

end Go.Proofs.Ytmcejefeloljiaa

/-
  What the symbolic executor shows of the inner functions of the reference for ratios.
-/
namespace Go.Proofs.Ytmcejefeloljiaa
open Go.RowKit Nm Go.SX

set_option maxRecDepth 100000 in
theorem T_rcheck (n : Bool) (a b : ByteArray) : sxEnd Try.prog Rd.no refCon.p 40 23 [.agg #[.bool n, .string a, .string b]] =
    bif szB a then
      bif chkN [a] != 0 then some (Ending.returned (Value.int IntKind.i64 70))
      else
        bif szB b then
          bif chkN [b] != 0 then some (Ending.returned (Value.int IntKind.i64 70))
          else
            bif b.toList == (bs []).toList then some (Ending.returned (Value.int IntKind.i64 70))
            else
              bif n then
                bif a.toList == (bs []).toList then some (Ending.returned (Value.int IntKind.i64 70))
                else
                  bif szB a && szB b then
                    bif !(gcdF a b).fst.toList == (bs [1]).toList then
                      some (Ending.returned (Value.int IntKind.i64 70))
                    else some (Ending.returned (Value.int IntKind.i64 0))
                  else none
              else
                bif szB a && szB b then
                  bif !(gcdF a b).fst.toList == (bs [1]).toList then
                    some (Ending.returned (Value.int IntKind.i64 70))
                  else some (Ending.returned (Value.int IntKind.i64 0))
                else none
        else none
    else none := by kernel_rfl
set_option maxRecDepth 100000 in
theorem T_rlow (n : Bool) (a b : ByteArray) : sxEnd Try.prog Rd.no refCon.p 40 51 [.bool n, .string a, .string b] =
    bif a.toList == (bs []).toList then
      some
        (Ending.returned
          (Value.agg { toList := [Value.bool false, Value.string (bs []), Value.string (bs [1])] }))
    else
      bif szB a && szB b then
        bif szB a && szB (gcdF a b).fst then
          bif szB b && szB (gcdF a b).fst then
            some
              (Ending.returned
                (Value.agg
                  {
                    toList :=
                      [Value.bool n, Value.string (divF a (gcdF a b).fst).fst, Value.string (divF b (gcdF a b).fst).fst] }))
          else none
        else none
      else none := by kernel_rfl
set_option maxRecDepth 100000 in
theorem T_ramount (n : Int) : sxEnd Try.prog Rd.no refCon.p 40 52 [.int .i64 n] =
    bif decide (n ≥ 0) then bif inI n then some (Ending.returned (Value.string (ofF n).fst)) else none
    else
      bif inI (IntKind.i64.wrap (0 - IntKind.i64.wrap (n + 1))) then
        bif szB (ofF (IntKind.i64.wrap (0 - IntKind.i64.wrap (n + 1)))).fst && szB (bs [1]) then
          some
            (Ending.returned
              (Value.string (addF (ofF (IntKind.i64.wrap (0 - IntKind.i64.wrap (n + 1)))).fst (bs [1])).fst))
        else none
      else none := by kernel_rfl

end Go.Proofs.Ytmcejefeloljiaa

/-
  The reference for ratios: its inner functions, and their table.
-/
namespace Go.Proofs.Ytmcejefeloljiaa
set_option linter.unusedSimpArgs false
set_option linter.unusedVariables false
open Go.RowKit Nm Go.SX

/-- a ratio in lowest terms -/
def lowS (neg : Bool) (n d : ByteArray) : Rt := if isE n then ⟨false, bs [], bs [1]⟩ else ⟨neg, (divF n (gcdF n d).1).1, (divF d (gcdF n d).1).1⟩
theorem rcheck_end (n : Bool) (a b : ByteArray) (ha : szB a = true) (hb : szB b = true) : sxEnd Try.prog Rd.no refCon.p 40 23 [.agg #[.bool n, .string a, .string b]] = some (.returned (.int .i64 (checkR ⟨n, a, b⟩))) := by
  rw [T_rcheck, ha, hb]
  unfold checkR badR
  have e1 : (⟨#[1]⟩ : ByteArray) = bs [1] := rfl
  simp only [eqL, isE_bs, cond_true, Bool.and_self, e1, dne]
  generalize (chkN [a] != 0) = x
  generalize (chkN [b] != 0) = y
  generalize hp : decide (b = bs []) = p
  generalize hq : decide (a = bs []) = q
  by_cases hg : (gcdF a b).1 = bs [1] <;> cases x <;> cases y <;> cases p <;> cases n <;> cases q <;> simp [hg]
theorem rlow_end (n : Bool) (a b : ByteArray) (ha : szB a = true) (hb : szB b = true) : sxEnd Try.prog Rd.no refCon.p 40 51 [.bool n, .string a, .string b] = some (.returned (rtV (lowS n a b))) := by
  rw [T_rlow, ha, hb, sz256 (gcdF_size a b)]
  unfold lowS
  simp only [eqL, isE_bs]
  cases decide (a = bs []) <;> rfl
theorem ramount_end (n : Int) (h : inI n = true) : sxEnd Try.prog Rd.no refCon.p 40 52 [.int .i64 n] = some (.returned (.string (encS n.natAbs))) := by
  have h0 := h
  unfold inI at h0
  rw [Bool.and_eq_true, decide_eq_true_eq, decide_eq_true_eq] at h0
  rw [T_ramount, h]
  by_cases hn : 0 ≤ n
  · have e : ofF n = (encS n.toNat, 0) := if_neg (by omega)
    have e2 : n.toNat = n.natAbs := by omega
    simp [e, hn, e2]
  · have w1 : IntKind.i64.wrap (n + 1) = n + 1 := wrapI (by omega) (by omega)
    have w2 : IntKind.i64.wrap (-(n + 1)) = -(n + 1) := wrapI (by omega) (by omega)
    have e : ofF (-(n + 1)) = (encS (-(n + 1)).toNat, 0) := if_neg (by omega)
    have hi : inI (-(n + 1)) = true := by unfold inI; rw [Bool.and_eq_true, decide_eq_true_eq, decide_eq_true_eq]; omega
    have hlt : (-(n + 1)).toNat ≤ 18446744073709551616 := by omega
    have hz : (0 : Int) - (n + 1) = -(n + 1) := by omega
    have hs := sz256 (enc_sm hlt)
    have h1 : bs [1] = encS 1 := by decide +kernel
    have hadd : addF (encS (-(n + 1)).toNat) (bs [1]) = (encS n.natAbs, 0) := by
      rw [h1]
      have hc : chkN [encS (-(n + 1)).toNat, encS 1] = 0 := chkE2 (by rw [← size_encS'] ; exact enc_sm hlt) (by rw [← size_encS']; decide +kernel)
      unfold addF
      rw [if_pos hc, nv_encS, nv_encS]
      unfold shortN
      rw [show (-(n + 1)).toNat + 1 = n.natAbs by omega, if_pos (enc_sm (by omega))]
    simp only [w1, hz, w2, e, hi, hs, hadd]
    simp [hn, show szB (bs [1]) = true by decide +kernel]
def r7aCon : ECon := fun f =>
  match f with
  | 23 => some fun vs => match vs with
    | [.agg ⟨[.bool n, .string a, .string b]⟩] => .need (szB a && szB b) (.ok (.ret (.val (.int .i64 (checkR ⟨n, a, b⟩)))))
    | _ => .no
  | 51 => some fun vs => match vs with
    | [.bool n, .string a, .string b] => .need (szB a && szB b) (.ok (.ret (.val (.agg #[.bool (lowS n a b).neg, .string (lowS n a b).n, .string (lowS n a b).d]))))
    | _ => .no
  | 52 => some fun vs => match vs with
    | [.int .i64 n] => .need (inI n) (.ok (.ret (.val (.string (encS n.natAbs)))))
    | _ => .no
  | f => refCon f
theorem r7aCon_ok : EConOk Try.prog r7aCon := by
  have pl : ∀ {f : FuncId} {vs : List Value} {e0 : Ending}, sxEnd Try.prog Rd.no refCon.p 40 f vs = some e0 → Plain Try.prog f vs e0 := fun h => plain_sound pOk (ECon.ok refCon_ok) 40 h
  intro f h hf
  unfold r7aCon at hf
  split at hf
  · cases hf
    refine ⟨⟨_, Try.func23, rfl⟩, fun vs e he => ?_⟩
    simp only at he
    split at he
    · obtain ⟨h1, h2⟩ := R3.need_some he
      cases h2
      rw [Bool.and_eq_true] at h1
      exact ⟨_, rfl, pl (rcheck_end _ _ _ h1.1 h1.2)⟩
    · cases he
  · cases hf
    refine ⟨⟨_, Try.func51, rfl⟩, fun vs e he => ?_⟩
    simp only at he
    split at he
    · obtain ⟨h1, h2⟩ := R3.need_some he
      cases h2
      rw [Bool.and_eq_true] at h1
      exact ⟨_, rfl, pl (rlow_end _ _ _ h1.1 h1.2)⟩
    · cases he
  · cases hf
    refine ⟨⟨_, Try.func52, rfl⟩, fun vs e he => ?_⟩
    simp only at he
    split at he
    · obtain ⟨h1, h2⟩ := R3.need_some he
      cases h2
      exact ⟨_, rfl, pl (ramount_end _ h1)⟩
    · cases he
  · exact refCon_ok _ _ hf

end Go.Proofs.Ytmcejefeloljiaa

/-
  What the symbolic executor shows of the reference for ratios.
-/
namespace Go.Proofs.Ytmcejefeloljiaa
open Go.RowKit Nm Go.SX

set_option maxRecDepth 100000 in
theorem T_radd (n m : Bool) (a b c d : ByteArray) : sxEnd Try.prog Rd.no r7aCon.p 40 25 [.agg #[.bool n, .string a, .string b], .agg #[.bool m, .string c, .string d]] =
    bif szB a && szB b then
      bif checkR { neg := n, n := a, d := b } != 0 then
        some
          (Ending.returned
            (Value.tuple
              {
                toList :=
                  [Value.agg { toList := [Value.bool false, Value.string (bs []), Value.string (bs [])] },
                    Value.int IntKind.i64 70] }))
      else
        bif szB c && szB d then
          bif checkR { neg := m, n := c, d := d } != 0 then
            some
              (Ending.returned
                (Value.tuple
                  {
                    toList :=
                      [Value.agg
                          { toList := [Value.bool false, Value.string (bs []), Value.string (bs [])] },
                        Value.int IntKind.i64 70] }))
          else
            bif szB a && szB d then
              bif szB c && szB b then
                bif szB b && szB d then
                  bif (mulF a d).snd != 0 then
                    some
                      (Ending.returned
                        (Value.tuple
                          {
                            toList :=
                              [Value.agg
                                  {
                                    toList :=
                                      [Value.bool false, Value.string (bs []), Value.string (bs [])] },
                                Value.int IntKind.i64 2] }))
                  else
                    bif (mulF c b).snd != 0 then
                      some
                        (Ending.returned
                          (Value.tuple
                            {
                              toList :=
                                [Value.agg
                                    {
                                      toList :=
                                        [Value.bool false, Value.string (bs []), Value.string (bs [])] },
                                  Value.int IntKind.i64 2] }))
                    else
                      bif (mulF b d).snd != 0 then
                        some
                          (Ending.returned
                            (Value.tuple
                              {
                                toList :=
                                  [Value.agg
                                      {
                                        toList :=
                                          [Value.bool false, Value.string (bs []), Value.string (bs [])] },
                                    Value.int IntKind.i64 2] }))
                      else
                        bif n == m then
                          bif szB (mulF a d).fst && szB (mulF c b).fst then
                            bif (addF (mulF a d).fst (mulF c b).fst).snd != 0 then
                              some
                                (Ending.returned
                                  (Value.tuple
                                    {
                                      toList :=
                                        [Value.agg
                                            {
                                              toList :=
                                                [Value.bool false, Value.string (bs []),
                                                  Value.string (bs [])] },
                                          Value.int IntKind.i64 2] }))
                            else
                              bif szB (addF (mulF a d).fst (mulF c b).fst).fst && szB (mulF b d).fst then
                                some
                                  (Ending.returned
                                    (Value.tuple
                                      {
                                        toList :=
                                          [Value.agg
                                              {
                                                toList :=
                                                  [Value.bool
                                                      (lowS n (addF (mulF a d).fst (mulF c b).fst).fst (mulF b d).fst).neg,
                                                    Value.string
                                                      (lowS n (addF (mulF a d).fst (mulF c b).fst).fst (mulF b d).fst).n,
                                                    Value.string
                                                      (lowS n (addF (mulF a d).fst (mulF c b).fst).fst (mulF b d).fst).d] },
                                            Value.int IntKind.i64 0] }))
                              else none
                          else none
                        else
                          bif szB (mulF a d).fst && szB (mulF c b).fst then
                            bif decide ((cmpF (mulF a d).fst (mulF c b).fst).fst ≥ 0) then
                              bif szB (mulF a d).fst && szB (mulF c b).fst then
                                bif szB (subF (mulF a d).fst (mulF c b).fst).fst && szB (mulF b d).fst then
                                  some
                                    (Ending.returned
                                      (Value.tuple
                                        {
                                          toList :=
                                            [Value.agg
                                                {
                                                  toList :=
                                                    [Value.bool
                                                        (lowS n (subF (mulF a d).fst (mulF c b).fst).fst
                                                            (mulF b d).fst).neg,
                                                      Value.string
                                                        (lowS n (subF (mulF a d).fst (mulF c b).fst).fst (mulF b d).fst).n,
                                                      Value.string
                                                        (lowS n (subF (mulF a d).fst (mulF c b).fst).fst
                                                            (mulF b d).fst).d] },
                                              Value.int IntKind.i64 0] }))
                                else none
                              else none
                            else
                              bif szB (mulF c b).fst && szB (mulF a d).fst then
                                bif szB (subF (mulF c b).fst (mulF a d).fst).fst && szB (mulF b d).fst then
                                  some
                                    (Ending.returned
                                      (Value.tuple
                                        {
                                          toList :=
                                            [Value.agg
                                                {
                                                  toList :=
                                                    [Value.bool
                                                        (lowS m (subF (mulF c b).fst (mulF a d).fst).fst
                                                            (mulF b d).fst).neg,
                                                      Value.string
                                                        (lowS m (subF (mulF c b).fst (mulF a d).fst).fst (mulF b d).fst).n,
                                                      Value.string
                                                        (lowS m (subF (mulF c b).fst (mulF a d).fst).fst
                                                            (mulF b d).fst).d] },
                                              Value.int IntKind.i64 0] }))
                                else none
                              else none
                          else none
                else none
              else none
            else none
        else none
    else none := by kernel_rfl
set_option maxRecDepth 100000 in
theorem T_rmul (n m : Bool) (a b c d : ByteArray) : sxEnd Try.prog Rd.no r7aCon.p 40 29 [.agg #[.bool n, .string a, .string b], .agg #[.bool m, .string c, .string d]] =
    bif szB a && szB b then
      bif checkR { neg := n, n := a, d := b } != 0 then
        some
          (Ending.returned
            (Value.tuple
              {
                toList :=
                  [Value.agg { toList := [Value.bool false, Value.string (bs []), Value.string (bs [])] },
                    Value.int IntKind.i64 70] }))
      else
        bif szB c && szB d then
          bif checkR { neg := m, n := c, d := d } != 0 then
            some
              (Ending.returned
                (Value.tuple
                  {
                    toList :=
                      [Value.agg
                          { toList := [Value.bool false, Value.string (bs []), Value.string (bs [])] },
                        Value.int IntKind.i64 70] }))
          else
            bif szB a && szB c then
              bif szB b && szB d then
                bif (mulF a c).snd != 0 then
                  some
                    (Ending.returned
                      (Value.tuple
                        {
                          toList :=
                            [Value.agg
                                {
                                  toList :=
                                    [Value.bool false, Value.string (bs []), Value.string (bs [])] },
                              Value.int IntKind.i64 2] }))
                else
                  bif (mulF b d).snd != 0 then
                    some
                      (Ending.returned
                        (Value.tuple
                          {
                            toList :=
                              [Value.agg
                                  {
                                    toList :=
                                      [Value.bool false, Value.string (bs []), Value.string (bs [])] },
                                Value.int IntKind.i64 2] }))
                  else
                    bif szB (mulF a c).fst && szB (mulF b d).fst then
                      some
                        (Ending.returned
                          (Value.tuple
                            {
                              toList :=
                                [Value.agg
                                    {
                                      toList :=
                                        [Value.bool (lowS (!n == m) (mulF a c).fst (mulF b d).fst).neg,
                                          Value.string (lowS (!n == m) (mulF a c).fst (mulF b d).fst).n,
                                          Value.string (lowS (!n == m) (mulF a c).fst (mulF b d).fst).d] },
                                  Value.int IntKind.i64 0] }))
                    else none
              else none
            else none
        else none
    else none := by kernel_rfl
set_option maxRecDepth 100000 in
theorem T_rdiv (n m : Bool) (a b c d : ByteArray) : sxEnd Try.prog Rd.no r7aCon.p 40 31 [.agg #[.bool n, .string a, .string b], .agg #[.bool m, .string c, .string d]] =
    bif szB a && szB b then
      bif checkR { neg := n, n := a, d := b } != 0 then
        some
          (Ending.returned
            (Value.tuple
              {
                toList :=
                  [Value.agg { toList := [Value.bool false, Value.string (bs []), Value.string (bs [])] },
                    Value.int IntKind.i64 70] }))
      else
        bif szB c && szB d then
          bif checkR { neg := m, n := c, d := d } != 0 then
            some
              (Ending.returned
                (Value.tuple
                  {
                    toList :=
                      [Value.agg
                          { toList := [Value.bool false, Value.string (bs []), Value.string (bs [])] },
                        Value.int IntKind.i64 70] }))
          else
            bif c.toList == (bs []).toList then
              some
                (Ending.returned
                  (Value.tuple
                    {
                      toList :=
                        [Value.agg
                            { toList := [Value.bool false, Value.string (bs []), Value.string (bs [])] },
                          Value.int IntKind.i64 71] }))
            else
              bif szB a && szB d then
                bif szB b && szB c then
                  bif (mulF a d).snd != 0 then
                    some
                      (Ending.returned
                        (Value.tuple
                          {
                            toList :=
                              [Value.agg
                                  {
                                    toList :=
                                      [Value.bool false, Value.string (bs []), Value.string (bs [])] },
                                Value.int IntKind.i64 2] }))
                  else
                    bif (mulF b c).snd != 0 then
                      some
                        (Ending.returned
                          (Value.tuple
                            {
                              toList :=
                                [Value.agg
                                    {
                                      toList :=
                                        [Value.bool false, Value.string (bs []), Value.string (bs [])] },
                                  Value.int IntKind.i64 2] }))
                    else
                      bif szB (mulF a d).fst && szB (mulF b c).fst then
                        some
                          (Ending.returned
                            (Value.tuple
                              {
                                toList :=
                                  [Value.agg
                                      {
                                        toList :=
                                          [Value.bool (lowS (!n == m) (mulF a d).fst (mulF b c).fst).neg,
                                            Value.string (lowS (!n == m) (mulF a d).fst (mulF b c).fst).n,
                                            Value.string (lowS (!n == m) (mulF a d).fst (mulF b c).fst).d] },
                                    Value.int IntKind.i64 0] }))
                      else none
                else none
              else none
        else none
    else none := by kernel_rfl
set_option maxRecDepth 100000 in
theorem T_rcmp (n m : Bool) (a b c d : ByteArray) : sxEnd Try.prog Rd.no r7aCon.p 40 33 [.agg #[.bool n, .string a, .string b], .agg #[.bool m, .string c, .string d]] =
    bif szB a && szB b then
      bif checkR { neg := n, n := a, d := b } != 0 then
        some (Ending.returned (Value.tuple { toList := [Value.int IntKind.i64 0, Value.int IntKind.i64 70] }))
      else
        bif szB c && szB d then
          bif checkR { neg := m, n := c, d := d } != 0 then
            some (Ending.returned (Value.tuple { toList := [Value.int IntKind.i64 0, Value.int IntKind.i64 70] }))
          else
            bif szB a && szB d then
              bif szB c && szB b then
                bif (mulF a d).snd != 0 then
                  some (Ending.returned (Value.tuple { toList := [Value.int IntKind.i64 0, Value.int IntKind.i64 2] }))
                else
                  bif (mulF c b).snd != 0 then
                    some (Ending.returned (Value.tuple { toList := [Value.int IntKind.i64 0, Value.int IntKind.i64 2] }))
                  else
                    bif !n == m then
                      bif n then
                        some
                          (Ending.returned
                            (Value.tuple { toList := [Value.int IntKind.i64 (-1), Value.int IntKind.i64 0] }))
                      else
                        some
                          (Ending.returned (Value.tuple { toList := [Value.int IntKind.i64 1, Value.int IntKind.i64 0] }))
                    else
                      bif szB (mulF a d).fst && szB (mulF c b).fst then
                        bif n then
                          some
                            (Ending.returned
                              (Value.tuple
                                {
                                  toList :=
                                    [Value.int IntKind.i64
                                        (IntKind.i64.wrap (0 - (cmpF (mulF a d).fst (mulF c b).fst).fst)),
                                      Value.int IntKind.i64 0] }))
                        else
                          some
                            (Ending.returned
                              (Value.tuple
                                {
                                  toList :=
                                    [Value.int IntKind.i64 (cmpF (mulF a d).fst (mulF c b).fst).fst,
                                      Value.int IntKind.i64 0] }))
                      else none
              else none
            else none
        else none
    else none := by kernel_rfl
set_option maxRecDepth 100000 in
theorem T_rfloor (n : Bool) (a b : ByteArray) : sxEnd Try.prog Rd.no r7aCon.p 40 17 [.agg #[.bool n, .string a, .string b]] =
    bif szB a && szB b then
      bif checkR { neg := n, n := a, d := b } != 0 then
        some (Ending.returned (Value.tuple { toList := [Value.int IntKind.i64 0, Value.int IntKind.i64 70] }))
      else
        bif szB a && szB b then
          bif decide ((↑(divF a b).fst.size : Int) > 8) then
            some (Ending.returned (Value.tuple { toList := [Value.int IntKind.i64 0, Value.int IntKind.i64 2] }))
          else
            bif n then
              bif !(divF a b).snd.fst.toList == (bs []).toList then
                bif szB (divF a b).fst && szB (bs [1]) then
                  bif szB (addF (divF a b).fst (bs [1])).fst then
                    bif !(intF (addF (divF a b).fst (bs [1])).fst).snd then
                      some (Ending.returned (Value.tuple { toList := [Value.int IntKind.i64 0, Value.int IntKind.i64 2] }))
                    else
                      bif decide ((intF (addF (divF a b).fst (bs [1])).fst).fst > 4611686018427387904) then
                        some
                          (Ending.returned (Value.tuple { toList := [Value.int IntKind.i64 0, Value.int IntKind.i64 2] }))
                      else
                        bif n then
                          some
                            (Ending.returned
                              (Value.tuple
                                {
                                  toList :=
                                    [Value.int IntKind.i64
                                        (IntKind.i64.wrap (0 - (intF (addF (divF a b).fst (bs [1])).fst).fst)),
                                      Value.int IntKind.i64 0] }))
                        else
                          some
                            (Ending.returned
                              (Value.tuple
                                {
                                  toList :=
                                    [Value.int IntKind.i64 (intF (addF (divF a b).fst (bs [1])).fst).fst,
                                      Value.int IntKind.i64 0] }))
                  else none
                else none
              else
                bif szB (divF a b).fst then
                  bif !(intF (divF a b).fst).snd then
                    some (Ending.returned (Value.tuple { toList := [Value.int IntKind.i64 0, Value.int IntKind.i64 2] }))
                  else
                    bif decide ((intF (divF a b).fst).fst > 4611686018427387904) then
                      some (Ending.returned (Value.tuple { toList := [Value.int IntKind.i64 0, Value.int IntKind.i64 2] }))
                    else
                      bif n then
                        some
                          (Ending.returned
                            (Value.tuple
                              {
                                toList :=
                                  [Value.int IntKind.i64 (IntKind.i64.wrap (0 - (intF (divF a b).fst).fst)),
                                    Value.int IntKind.i64 0] }))
                      else
                        some
                          (Ending.returned
                            (Value.tuple
                              { toList := [Value.int IntKind.i64 (intF (divF a b).fst).fst, Value.int IntKind.i64 0] }))
                else none
            else
              bif szB (divF a b).fst then
                bif !(intF (divF a b).fst).snd then
                  some (Ending.returned (Value.tuple { toList := [Value.int IntKind.i64 0, Value.int IntKind.i64 2] }))
                else
                  bif decide ((intF (divF a b).fst).fst > 4611686018427387904) then
                    some (Ending.returned (Value.tuple { toList := [Value.int IntKind.i64 0, Value.int IntKind.i64 2] }))
                  else
                    bif n then
                      some
                        (Ending.returned
                          (Value.tuple
                            {
                              toList :=
                                [Value.int IntKind.i64 (IntKind.i64.wrap (0 - (intF (divF a b).fst).fst)),
                                  Value.int IntKind.i64 0] }))
                    else
                      some
                        (Ending.returned
                          (Value.tuple
                            { toList := [Value.int IntKind.i64 (intF (divF a b).fst).fst, Value.int IntKind.i64 0] }))
              else none
        else none
    else none := by kernel_rfl
set_option maxRecDepth 100000 in
theorem T_rnew (n d : Int) : sxEnd Try.prog Rd.no r7aCon.p 40 15 [.int .i64 n, .int .i64 d] =
    bif d == 0 then
      some
        (Ending.returned
          (Value.tuple
            {
              toList :=
                [Value.agg { toList := [Value.bool false, Value.string (bs []), Value.string (bs [])] },
                  Value.int IntKind.i64 71] }))
    else
      bif inI n then
        bif inI d then
          bif szB (encS n.natAbs) && szB (encS d.natAbs) then
            some
              (Ending.returned
                (Value.tuple
                  {
                    toList :=
                      [Value.agg
                          {
                            toList :=
                              [Value.bool (lowS (!decide (n < 0) == decide (d < 0)) (encS n.natAbs) (encS d.natAbs)).neg,
                                Value.string (lowS (!decide (n < 0) == decide (d < 0)) (encS n.natAbs) (encS d.natAbs)).n,
                                Value.string
                                  (lowS (!decide (n < 0) == decide (d < 0)) (encS n.natAbs) (encS d.natAbs)).d] },
                        Value.int IntKind.i64 0] }))
          else none
        else none
      else none := by kernel_rfl

end Go.Proofs.Ytmcejefeloljiaa

/-
  Ratios and rational numbers: what the functions of package ratios do to them.
-/
namespace Go.Proofs.Ytmcejefeloljiaa
open Go.RowKit Nm Go.SX

def toR (q : Rat) : Rt := ⟨decide (q.num < 0), encS q.num.natAbs, encS q.den⟩
/-- numbers of at most so many bytes -/
def Bd (q : Rat) (k : Nat) : Prop := (enc q.num.natAbs).length ≤ k ∧ (enc q.den).length ≤ k
theorem toR_inj {p q : Rat} (h : toR p = toR q) : p = q := by
  unfold toR at h
  injection h with h1 h2 h3
  have e2 := encS_inj h2
  have e3 := encS_inj h3
  have e1 : decide (p.num < 0) = decide (q.num < 0) := h1
  simp only [decide_eq_decide] at e1
  apply Rat.ext _ e3
  omega
theorem toR_iff {p q : Rat} : toR p = toR q ↔ p = q := ⟨toR_inj, fun h => h ▸ rfl⟩
theorem Bd.mono {q : Rat} {i j : Nat} (h : Bd q i) (hij : i ≤ j) : Bd q j := ⟨Nat.le_trans h.1 hij, Nat.le_trans h.2 hij⟩
theorem Bd.n {q : Rat} {k : Nat} (h : Bd q k) (hk : k ≤ 256) : Sm q.num.natAbs := Nat.le_trans h.1 hk
theorem Bd.d {q : Rat} {k : Nat} (h : Bd q k) (hk : k ≤ 256) : Sm q.den := Nat.le_trans h.2 hk
theorem isE_encS (n : Nat) : isE (encS n) = decide (n = 0) := by
  unfold isE
  rw [size_encS]
  by_cases h : n = 0
  · subst h; rfl
  · have : ¬ (enc n).length = 0 := fun e => h (by have := (enc_length_le n 0).1 (by omega); simpa using this)
    simp [h, this]
theorem one_encS : (⟨#[1]⟩ : ByteArray) = encS 1 := rfl
theorem check_toR {q : Rat} {k : Nat} (h : Bd q k) (hk : k ≤ 256) : checkR (toR q) = 0 := by
  unfold checkR badR toR
  have h1 : (Nat.gcd q.num.natAbs q.den) = 1 := q.reduced
  have h2 := q.den_nz
  simp only [chkE1 (h.n hk), chkE1 (h.d hk), isE_encS, gcdE (h.n hk) (h.d hk), h1, one_encS]
  have h3 : (decide (q.num < 0) && decide (q.num.natAbs = 0)) = false := by
    rw [Bool.and_eq_false_iff]
    by_cases h0 : q.num < 0
    · exact .inr (decide_eq_false (by omega))
    · exact .inl (decide_eq_false h0)
  rw [h3]
  simp [h2]
theorem valid_toR {x : Rt} (h : checkR x = 0) : ∃ q, x = toR q ∧ Bd q 256 := by
  obtain ⟨n, a, b⟩ := x
  unfold checkR at h
  split at h
  · cases h
  · rename_i hb
    split at h
    · rename_i hg
      unfold badR at hb
      simp only [Bool.or_eq_true, decide_eq_true_eq, Bool.and_eq_true, not_or, Classical.not_not] at hb
      obtain ⟨⟨⟨h1, h2⟩, h3⟩, h4⟩ := hb
      obtain ⟨a1, a2⟩ := chk_one h1
      obtain ⟨b1, b2⟩ := chk_one h2
      obtain ⟨ea, sa⟩ := natE a1 a2
      obtain ⟨eb, sb⟩ := natE b1 b2
      simp only at ea eb hg h3 h4
      generalize nv a = i at *
      generalize nv b = j at *
      subst ea
      subst eb
      rw [isE_encS] at h3 h4
      simp only [decide_eq_true_eq] at h3 h4
      rw [gcdE sa sb, one_encS] at hg
      have hg' := encS_inj hg
      refine ⟨⟨if n then -(i : Int) else i, j, h3, ?_⟩, ?_, ?_⟩
      · cases n <;> simpa using hg'
      · unfold toR
        have e1 : (if n = true then -(i : Int) else (i : Int)).natAbs = i := by split <;> omega
        simp only [e1]
        congr 1
        cases n
        · simp
        · have : i ≠ 0 := fun e => h4 ⟨rfl, e⟩
          simp; omega
      · have e1 : (if n = true then -(i : Int) else (i : Int)).natAbs = i := by split <;> omega
        constructor
        · simp only [e1]; exact sa
        · exact sb
    · cases h
theorem Bd.of_size {q : Rat} {k : Nat} (h1 : (toR q).n.size ≤ k) (h2 : (toR q).d.size ≤ k) : Bd q k := by
  unfold toR at h1 h2
  rw [size_encS] at h1 h2
  exact ⟨h1, h2⟩
theorem Bd.zR {q : Rat} {k : Nat} (h : Bd q k) (hk : k ≤ 256) : szB (toR q).n = true ∧ szB (toR q).d = true :=
  ⟨sz256 (by unfold toR; exact (h.n hk).size), sz256 (by unfold toR; exact (h.d hk).size)⟩

/-- the sign that a number shows -/
def Sn (b : Bool) (z : Int) : Prop := z ≠ 0 → b = decide (z < 0)
theorem over_toR {z : Int} {d : Nat} {b : Bool} (hd : d ≠ 0) (hb : Sn b z) (hz : Sm z.natAbs) (hs : Sm d) : overO ⟨b, encS z.natAbs⟩ (encS d) = some (toR (mkRat z d)) := by
  have hg : 0 < Nat.gcd z.natAbs d := Nat.gcd_pos_of_pos_right _ (Nat.pos_of_ne_zero hd)
  have hgz : Sm (Nat.gcd z.natAbs d) := hs.mono (Nat.gcd_le_right _ (Nat.pos_of_ne_zero hd))
  unfold overO overR
  rw [gcdE hz hs]
  simp only [mustO, if_true, Option.map_some, divE hz hgz hg, divE hs hgz hg, isE_encS]
  rw [← Rat.normalize_eq_mkRat hd, Rat.normalize_eq hd]
  unfold toR
  simp only
  have e1 : (z / (Nat.gcd z.natAbs d : Int)).natAbs = z.natAbs / Nat.gcd z.natAbs d := by
    obtain ⟨c, hc⟩ := Nat.gcd_dvd_left z.natAbs d
    have hdv : ((Nat.gcd z.natAbs d : Nat) : Int) ∣ z := by
      have : ((Nat.gcd z.natAbs d : Nat) : Int) ∣ (z.natAbs : Int) := Int.natCast_dvd_natCast.2 (Nat.gcd_dvd_left _ _)
      exact (Int.dvd_natAbs).1 this
    rw [Int.natAbs_ediv_of_dvd hdv]
    simp
  have e2 : (b && !decide (z.natAbs / Nat.gcd z.natAbs d = 0)) = decide (z / (Nat.gcd z.natAbs d : Int) < 0) := by
    by_cases h0 : z = 0
    · subst h0; simp
    · rw [hb h0]
      have hgle : Nat.gcd z.natAbs d ≤ z.natAbs := Nat.gcd_le_left _ (by omega)
      have : z.natAbs / Nat.gcd z.natAbs d ≠ 0 := by
        have := Nat.div_pos hgle hg
        omega
      simp only [this, decide_false, Bool.not_false, Bool.and_true, decide_eq_decide]
      constructor
      · intro h
        exact Int.ediv_neg_of_neg_of_pos h (by omega)
      · intro h
        by_cases h1 : z < 0
        · exact h1
        · have := Int.ediv_nonneg (a := z) (b := (Nat.gcd z.natAbs d : Int)) (by omega) (by omega)
          omega
  rw [e1, e2]
theorem mk_bd {z : Int} {d : Nat} {k : Nat} (hd : d ≠ 0) (hz : (enc z.natAbs).length ≤ k) (hs : (enc d).length ≤ k) : Bd (mkRat z d) k := by
  rw [← Rat.normalize_eq_mkRat hd, Rat.normalize_eq hd]
  unfold Bd
  simp only
  have e1 : (z / (Nat.gcd z.natAbs d : Int)).natAbs = z.natAbs / Nat.gcd z.natAbs d := by
    have hdv : ((Nat.gcd z.natAbs d : Nat) : Int) ∣ z := by
      have : ((Nat.gcd z.natAbs d : Nat) : Int) ∣ (z.natAbs : Int) := Int.natCast_dvd_natCast.2 (Nat.gcd_dvd_left _ _)
      exact (Int.dvd_natAbs).1 this
    rw [Int.natAbs_ediv_of_dvd hdv]
    simp
  rw [e1]
  exact ⟨Nat.le_trans (enc_len_mono (Nat.div_le_self _ _)) hz, Nat.le_trans (enc_len_mono (Nat.div_le_self _ _)) hs⟩
theorem timesE {m n : Nat} (hm : Sm m) (hn : Sm n) (h : Sm (m * n)) : timesO (encS m) (encS n) = some (encS (m * n)) := by
  unfold timesO mustO
  rw [mulE hm hn h]
  rfl
theorem sadd_toR {u v : Int} {bu bv : Bool} (hu : Sn bu u) (hv : Sn bv v) (h : Sm (u.natAbs + v.natAbs)) : ∃ b, saddO ⟨bu, encS u.natAbs⟩ ⟨bv, encS v.natAbs⟩ = some ⟨b, encS (u + v).natAbs⟩ ∧ Sn b (u + v) := by
  have s1 : Sm u.natAbs := h.mono (by omega)
  have s2 : Sm v.natAbs := h.mono (by omega)
  unfold saddO plusO lessB mustO
  simp only [addE s1 s2 h, cmpE s1 s2]
  by_cases hb : bu = bv
  · subst hb
    simp only [if_true, Option.map_some]
    refine ⟨bu, ?_, ?_⟩
    · have : (u + v).natAbs = u.natAbs + v.natAbs := by
        by_cases h1 : u = 0
        · subst h1; simp
        · by_cases h2 : v = 0
          · subst h2; simp
          · have e := (hu h1).symm.trans (hv h2)
            simp only [decide_eq_decide] at e
            omega
      rw [this]
    · intro h0
      by_cases h1 : u = 0
      · subst h1
        rw [Int.zero_add] at h0 ⊢
        exact hv h0
      · by_cases h2 : v = 0
        · subst h2
          rw [Int.add_zero] at h0 ⊢
          exact hu h0
        · have e := (hu h1).symm.trans (hv h2)
          simp only [decide_eq_decide] at e
          rw [hu h1, decide_eq_decide]
          omega
  · rw [if_neg hb]
    have hc : cmpN u.natAbs v.natAbs < 0 ↔ u.natAbs < v.natAbs := by
      unfold cmpN
      split
      · simp; omega
      · split <;> simp <;> omega
    simp only [decide_eq_true_eq, hc]
    by_cases hl : u.natAbs < v.natAbs
    · rw [if_pos hl, subE s2 s1 (by omega)]
      simp only [if_true, Option.map_some]
      have hv0 : v ≠ 0 := by omega
      have hv1 := hv hv0
      refine ⟨bv, ?_, ?_⟩
      · have : (u + v).natAbs = v.natAbs - u.natAbs := by
          by_cases h1 : u = 0
          · subst h1; simp
          · have hu1 := hu h1
            have e : ¬ (decide (u < 0) = decide (v < 0)) := fun e => hb (hu1.trans (e.trans hv1.symm))
            simp only [decide_eq_decide] at e
            omega
        rw [this]
      · intro h0
        rw [hv1, decide_eq_decide]
        omega
    · rw [if_neg hl, subE s1 s2 (by omega)]
      simp only [if_true, Option.map_some]
      refine ⟨bu, ?_, ?_⟩
      · have : (u + v).natAbs = u.natAbs - v.natAbs := by
          by_cases h1 : u = 0
          · omega
          · by_cases h2 : v = 0
            · subst h2; simp
            · have e : ¬ (decide (u < 0) = decide (v < 0)) := fun e => hb ((hu h1).trans (e.trans (hv h2).symm))
              simp only [decide_eq_decide] at e
              omega
        rw [this]
      · intro h0
        have h1 : u ≠ 0 := by omega
        rw [hu h1, decide_eq_decide]
        by_cases h2 : v = 0
        · subst h2; simp
        · have e : ¬ (decide (u < 0) = decide (v < 0)) := fun e => hb ((hu h1).trans (e.trans (hv h2).symm))
          simp only [decide_eq_decide] at e
          omega

end Go.Proofs.Ytmcejefeloljiaa

/-
  What the functions of package ratios do to rational numbers.
-/
namespace Go.Proofs.Ytmcejefeloljiaa
open Go.RowKit Nm Go.SX

theorem sn_mul (p : Rat) {m : Nat} (hm : m ≠ 0) : Sn (decide (p.num < 0)) (p.num * m) := by
  intro _
  rw [decide_eq_decide]
  constructor
  · intro h
    exact Int.mul_neg_of_neg_of_pos h (by omega)
  · intro h
    by_cases h1 : p.num < 0
    · exact h1
    · have := Int.mul_nonneg (a := p.num) (b := (m : Int)) (by omega) (by omega)
      omega
theorem enc_mul_le {m n i j : Nat} (hm : (enc m).length ≤ i) (hn : (enc n).length ≤ j) : (enc (m * n)).length ≤ i + j := Nat.le_trans (enc_len_mul m n) (by omega)
theorem addO_toR {p q : Rat} {i j : Nat} (hp : Bd p i) (hq : Bd q j) (h : i + j + 1 ≤ 256) : addO (toR p) (toR q) = some (toR (p + q)) ∧ Bd (p + q) (i + j + 1) := by
  have hd : (enc (p.den * q.den)).length ≤ i + j := enc_mul_le hp.2 hq.2
  have hx : (enc (p.num.natAbs * q.den)).length ≤ i + j := enc_mul_le hp.1 hq.2
  have hy : (enc (q.num.natAbs * p.den)).length ≤ i + j := by
    have := enc_mul_le hq.1 hp.2
    omega
  have hs : (enc (p.num.natAbs * q.den + q.num.natAbs * p.den)).length ≤ i + j + 1 := enc_len_add _ _ _ hx hy
  have ex : (p.num * (q.den : Int)).natAbs = p.num.natAbs * q.den := by rw [Int.natAbs_mul]; simp
  have ey : (q.num * (p.den : Int)).natAbs = q.num.natAbs * p.den := by rw [Int.natAbs_mul]; simp
  obtain ⟨b, hb1, hb2⟩ := sadd_toR (sn_mul p q.den_nz) (sn_mul q p.den_nz) (by rw [ex, ey]; exact Nat.le_trans hs h)
  have hz : (enc (p.num * (q.den : Int) + q.num * (p.den : Int)).natAbs).length ≤ i + j + 1 := by
    refine Nat.le_trans (enc_len_mono ?_) hs
    rw [← ex, ← ey]
    exact Int.natAbs_add_le _ _
  have hnz : p.den * q.den ≠ 0 := Nat.mul_ne_zero p.den_nz q.den_nz
  have e : p + q = mkRat (p.num * (q.den : Int) + q.num * (p.den : Int)) (p.den * q.den) := by
    rw [Rat.add_def, Rat.normalize_eq_mkRat]
  refine ⟨?_, ?_⟩
  · unfold addO
    show (timesO (encS p.den) (encS q.den)).bind _ = _
    rw [timesE (hp.d (by omega)) (hq.d (by omega)) (Nat.le_trans hd (by omega))]
    show (timesO (encS p.num.natAbs) (encS q.den)).bind _ = _
    rw [timesE (hp.n (by omega)) (hq.d (by omega)) (Nat.le_trans hx (by omega))]
    show (timesO (encS q.num.natAbs) (encS p.den)).bind _ = _
    rw [timesE (hq.n (by omega)) (hp.d (by omega)) (Nat.le_trans hy (by omega))]
    show (saddO ⟨decide (p.num < 0), encS (p.num.natAbs * q.den)⟩ ⟨decide (q.num < 0), encS (q.num.natAbs * p.den)⟩).bind _ = _
    rw [← ex, ← ey, hb1]
    show overO ⟨b, encS _⟩ (encS (p.den * q.den)) = _
    rw [over_toR hnz hb2 (Nat.le_trans hz h) (Nat.le_trans hd (by omega)), e]
  · rw [e]
    exact mk_bd hnz hz (Nat.le_trans hd (by omega))
theorem add_toR {p q : Rat} {i j : Nat} (hp : Bd p i) (hq : Bd q j) (h : i + j + 1 ≤ 256) : addR (toR p) (toR q) = (toR (p + q), 0) := by
  unfold addR both
  rw [check_toR hp (by omega), check_toR hq (by omega), (addO_toR hp hq h).1]
  rfl
theorem add_bd {p q : Rat} {i j : Nat} (hp : Bd p i) (hq : Bd q j) (h : i + j + 1 ≤ 256) : Bd (p + q) (i + j + 1) := (addO_toR hp hq h).2
theorem neg_toR (q : Rat) : negR (toR q) = toR (-q) := by
  unfold negR toR
  simp only [isE_encS, Rat.neg_num, Rat.neg_den, Int.natAbs_neg]
  congr 1
  by_cases h : q.num < 0
  · have h2 : ¬ (-q.num < 0) := by omega
    rw [decide_eq_true h, decide_eq_false h2]; rfl
  · rw [decide_eq_false h]
    by_cases h0 : q.num = 0
    · rw [decide_eq_true (by omega), decide_eq_false (by omega)]; rfl
    · rw [decide_eq_false (by omega), decide_eq_true (by omega)]; rfl
theorem neg_bd {q : Rat} {k : Nat} (h : Bd q k) : Bd (-q) k := by
  unfold Bd
  rw [Rat.neg_num, Rat.neg_den, Int.natAbs_neg]
  exact h
theorem sub_toR {p q : Rat} {i j : Nat} (hp : Bd p i) (hq : Bd q j) (h : i + j + 1 ≤ 256) : subR (toR p) (toR q) = (toR (p - q), 0) := by
  unfold subR both
  rw [check_toR hp (by omega), check_toR hq (by omega), neg_toR, (addO_toR hp (neg_bd hq) h).1, ← Rat.sub_eq_add_neg]
  rfl
theorem sub_bd {p q : Rat} {i j : Nat} (hp : Bd p i) (hq : Bd q j) (h : i + j + 1 ≤ 256) : Bd (p - q) (i + j + 1) := by
  rw [Rat.sub_eq_add_neg]
  exact (addO_toR hp (neg_bd hq) h).2
theorem sn_sign {a b : Int} : Sn (decide (a < 0) != decide (b < 0)) (a * b) := by
  intro h0
  have ha : a ≠ 0 := fun e => h0 (by rw [e]; simp)
  have hb : b ≠ 0 := fun e => h0 (by rw [e]; simp)
  by_cases h1 : a < 0
  · by_cases h2 : b < 0
    · have := Int.mul_pos_of_neg_of_neg h1 h2
      simp [h1, h2]
      omega
    · have := Int.mul_neg_of_neg_of_pos h1 (show 0 < b by omega)
      simp [h1, h2, this]
  · by_cases h2 : b < 0
    · have := Int.mul_neg_of_pos_of_neg (show 0 < a by omega) h2
      simp [h1, h2, this]
    · have := Int.mul_pos (show 0 < a by omega) (show 0 < b by omega)
      simp [h1, h2]
      omega
theorem mul_toR {p q : Rat} {i j : Nat} (hp : Bd p i) (hq : Bd q j) (h : i + j ≤ 256) : mulR (toR p) (toR q) = (toR (p * q), 0) := by
  have hd : (enc (p.den * q.den)).length ≤ i + j := enc_mul_le hp.2 hq.2
  have hn : (enc (p.num.natAbs * q.num.natAbs)).length ≤ i + j := enc_mul_le hp.1 hq.1
  unfold mulR both
  rw [check_toR hp (by omega), check_toR hq (by omega)]
  unfold mulO
  show (resO ((timesO (encS p.num.natAbs) (encS q.num.natAbs)).bind _)) = _
  rw [timesE (hp.n (by omega)) (hq.n (by omega)) (Nat.le_trans hn h)]
  show (resO ((timesO (encS p.den) (encS q.den)).bind _)) = _
  rw [timesE (hp.d (by omega)) (hq.d (by omega)) (Nat.le_trans hd h)]
  show resO (overO ⟨decide (p.num < 0) != decide (q.num < 0), encS (p.num.natAbs * q.num.natAbs)⟩ (encS (p.den * q.den))) = _
  rw [← Int.natAbs_mul] at hn ⊢
  rw [over_toR (Nat.mul_ne_zero p.den_nz q.den_nz) sn_sign (Nat.le_trans hn h) (Nat.le_trans hd h), Rat.mul_def, Rat.normalize_eq_mkRat]
  rfl
theorem mul_bd {p q : Rat} {i j : Nat} (hp : Bd p i) (hq : Bd q j) : Bd (p * q) (i + j) := by
  rw [Rat.mul_def, Rat.normalize_eq_mkRat]
  refine mk_bd (Nat.mul_ne_zero p.den_nz q.den_nz) ?_ (enc_mul_le hp.2 hq.2)
  rw [Int.natAbs_mul]
  exact enc_mul_le hp.1 hq.1
theorem div_zero {p q : Rat} {i j : Nat} (hp : Bd p i) (hq : Bd q j) (h : i + j ≤ 256) (h0 : q = 0) : divR (toR p) (toR q) = (zR, 71) := by
  unfold divR both
  rw [check_toR hp (by omega), check_toR hq (by omega)]
  subst h0
  rfl
theorem div_toR {p q : Rat} {i j : Nat} (hp : Bd p i) (hq : Bd q j) (h : i + j ≤ 256) (h0 : q ≠ 0) : divR (toR p) (toR q) = (toR (p / q), 0) := by
  have hn : (enc (p.num.natAbs * q.den)).length ≤ i + j := enc_mul_le hp.1 hq.2
  have hd : (enc (p.den * q.num.natAbs)).length ≤ i + j := enc_mul_le hp.2 hq.1
  have hq0 : q.num ≠ 0 := fun e => h0 (Rat.num_eq_zero.1 e)
  unfold divR both
  rw [check_toR hp (by omega), check_toR hq (by omega)]
  have hz : isE (toR q).n = false := by
    unfold toR
    rw [isE_encS]
    exact decide_eq_false (by omega)
  rw [hz]
  unfold mulO
  show (resO ((timesO (encS p.num.natAbs) (encS q.den)).bind _)) = _
  rw [timesE (hp.n (by omega)) (hq.d (by omega)) (Nat.le_trans hn h)]
  show (resO ((timesO (encS p.den) (encS q.num.natAbs)).bind _)) = _
  rw [timesE (hp.d (by omega)) (hq.n (by omega)) (Nat.le_trans hd h)]
  show resO (overO ⟨decide (p.num < 0) != decide (q.num < 0), encS (p.num.natAbs * q.den)⟩ (encS (p.den * q.num.natAbs))) = _
  have hdz : p.den * q.num.natAbs ≠ 0 := Nat.mul_ne_zero p.den_nz (by omega)
  have e1 : p.num.natAbs * q.den = (p.num * (q.num.sign * q.den)).natAbs := by
    rw [Int.natAbs_mul, Int.natAbs_mul, Int.natAbs_sign_of_ne_zero hq0]
    simp
  have sn : Sn (decide (p.num < 0) != decide (q.num < 0)) (p.num * (q.num.sign * q.den)) := by
    have : decide (q.num < 0) = decide (q.num.sign * (q.den : Int) < 0) := by
      rw [decide_eq_decide]
      have hden : 0 < (q.den : Int) := by have := q.den_nz; omega
      by_cases hs : q.num < 0
      · rw [Int.sign_eq_neg_one_of_neg hs]
        constructor
        · intro _; omega
        · intro _; exact hs
      · rw [Int.sign_eq_one_of_pos (by omega)]
        constructor
        · intro h; omega
        · intro h; omega
    rw [this]
    exact sn_sign
  rw [e1] at hn ⊢
  rw [over_toR hdz sn (Nat.le_trans hn h) (Nat.le_trans hd h)]
  have key : mkRat (p.num * (q.num.sign * (q.den : Int))) (p.den * q.num.natAbs) = p / q := by
    have hr : p / q = mkRat (p / q).num (p / q).den := (Rat.mkRat_self _).symm
    have e2 : mkRat (p.num * (q.num.sign * (q.den : Int))) (p.den * q.num.natAbs) * q = p := by
      rw [← Rat.mkRat_self q, ← Rat.mkRat_self p]
      rw [Rat.mkRat_self q, Rat.mkRat_self p]
      conv => lhs; rhs; rw [← Rat.mkRat_self q]
      rw [Rat.mkRat_mul_mkRat]
      conv => rhs; rw [← Rat.mkRat_self p]
      rw [Rat.mkRat_eq_iff (Nat.mul_ne_zero hdz q.den_nz) p.den_nz]
      have hs : q.num.sign * q.num = (q.num.natAbs : Int) := by rw [Int.mul_comm, Int.mul_sign_self]
      push_cast
      have : p.num * (q.num.sign * (q.den : Int)) * q.num * (p.den : Int) = p.num * (q.den : Int) * (p.den : Int) * (q.num.sign * q.num) := by
        simp only [Int.mul_assoc, Int.mul_comm, Int.mul_left_comm]
      rw [this, hs]
      simp only [Int.mul_assoc, Int.mul_comm, Int.mul_left_comm]
    rw [Rat.div_def]
    calc mkRat (p.num * (q.num.sign * (q.den : Int))) (p.den * q.num.natAbs)
        = mkRat (p.num * (q.num.sign * (q.den : Int))) (p.den * q.num.natAbs) * (q * q⁻¹) := by rw [Rat.mul_inv_cancel q h0, Rat.mul_one]
      _ = mkRat (p.num * (q.num.sign * (q.den : Int))) (p.den * q.num.natAbs) * q * q⁻¹ := by rw [Rat.mul_assoc]
      _ = p * q⁻¹ := by rw [e2]
  rw [key]
  rfl

end Go.Proofs.Ytmcejefeloljiaa

/-
  What Compare, Floor, Ceil and New do to rational numbers.
-/
namespace Go.Proofs.Ytmcejefeloljiaa
open Go.RowKit Nm Go.SX

def cmpQ (p q : Rat) : Int := if p = q then 0 else if p < q then -1 else 1
theorem lessE {m n : Nat} (hm : Sm m) (hn : Sm n) : lessB (encS m) (encS n) = decide (m < n) := by
  unfold lessB
  rw [cmpE hm hn, decide_eq_decide]
  unfold cmpN
  split
  · simp; omega
  · split <;> simp <;> omega
theorem eq_iff_cross (p q : Rat) : p = q ↔ p.num * (q.den : Int) = q.num * (p.den : Int) := by
  constructor
  · rintro rfl; rfl
  · intro h
    apply Rat.le_antisymm
    · rw [Rat.le_iff]; omega
    · rw [Rat.le_iff]; omega
theorem cmp_toR {p q : Rat} {i j : Nat} (hp : Bd p i) (hq : Bd q j) (h : i + j ≤ 256) : cmpR (toR p) (toR q) = (cmpQ p q, 0) := by
  have hx : (enc (p.num.natAbs * q.den)).length ≤ i + j := enc_mul_le hp.1 hq.2
  have hy : (enc (q.num.natAbs * p.den)).length ≤ i + j := by
    have := enc_mul_le hq.1 hp.2
    omega
  unfold cmpR
  rw [check_toR hp (by omega), check_toR hq (by omega)]
  show (match timesO (encS p.num.natAbs) (encS q.den), timesO (encS q.num.natAbs) (encS p.den) with
    | some x, some y => (ordS (decide (p.num < 0)) (decide (q.num < 0)) x y, (0 : Int))
    | _, _ => (0, 2)) = _
  rw [timesE (hp.n (by omega)) (hq.d (by omega)) (Nat.le_trans hx h), timesE (hq.n (by omega)) (hp.d (by omega)) (Nat.le_trans hy h)]
  simp only
  congr 1
  unfold ordS cmpQ
  rw [lessE (Nat.le_trans hy h) (Nat.le_trans hx h), lessE (Nat.le_trans hx h) (Nat.le_trans hy h)]
  simp only [Rat.lt_iff, eq_iff_cross p q]
  have h1 : (p.num * (q.den : Int)).natAbs = p.num.natAbs * q.den := by rw [Int.natAbs_mul]; simp
  have h2 : (q.num * (p.den : Int)).natAbs = q.num.natAbs * p.den := by rw [Int.natAbs_mul]; simp
  rw [← h1, ← h2]
  have s1 : decide (p.num < 0) = decide (p.num * (q.den : Int) < 0) := by
    by_cases h0 : p.num * (q.den : Int) = 0
    · have : p.num = 0 := (Int.mul_eq_zero.1 h0).elim id fun e => absurd e (by have := q.den_nz; omega)
      rw [h0, this]
    · exact sn_mul p q.den_nz h0
  have s2 : decide (q.num < 0) = decide (q.num * (p.den : Int) < 0) := by
    by_cases h0 : q.num * (p.den : Int) = 0
    · have : q.num = 0 := (Int.mul_eq_zero.1 h0).elim id fun e => absurd e (by have := p.den_nz; omega)
      rw [h0, this]
    · exact sn_mul q p.den_nz h0
  rw [s1, s2]
  generalize p.num * (q.den : Int) = u
  generalize q.num * (p.den : Int) = v
  have e1 : encS u.natAbs = encS v.natAbs ↔ u.natAbs = v.natAbs := ⟨encS_inj, fun e => by rw [e]⟩
  simp only [e1, decide_eq_decide, decide_eq_true_eq, ne_eq, decide_eq_false_iff_not]
  by_cases c1 : u = v
  · rw [if_pos c1, if_pos (by omega)]
  · rw [if_neg c1, if_neg (by omega)]
    by_cases c2 : u < v
    · rw [if_pos c2, if_pos (by omega)]
    · rw [if_neg c2, if_neg (by omega)]

/-- a whole number, if it is not too great -/
def limQ (z : Int) : Int × Int := if -4611686018427387904 ≤ z ∧ z ≤ 4611686018427387904 then (z, 0) else (0, 2)
theorem floor_toR {q : Rat} {k : Nat} (h : Bd q k) (hk : k ≤ 256) : floorR (toR q) = limQ q.floor := by
  have hden : 0 < q.den := Nat.pos_of_ne_zero q.den_nz
  unfold floorR
  rw [check_toR h hk]
  have e1 : divF (toR q).n (toR q).d = (encS (q.num.natAbs / q.den), encS (q.num.natAbs % q.den), 0) := divE (h.n hk) (h.d hk) hden
  rw [e1]
  simp only [isE_encS]
  have e2 : intF (encS (q.num.natAbs / q.den)) = if (encS (q.num.natAbs / q.den)).size ≤ 8 ∧ q.num.natAbs / q.den < 9223372036854775808 then (((q.num.natAbs / q.den : Nat) : Int), true) else (0, false) := by
    unfold intF
    rw [isN_encS, nv_encS]
    simp
  have e3 : (encS (q.num.natAbs / q.den)).size ≤ 8 ↔ q.num.natAbs / q.den < 256 ^ 8 := encS_size_le _ _
  rw [e2, Rat.floor_def]
  have hneg : (toR q).neg = decide (q.num < 0) := rfl
  rw [hneg]
  have hF : q.num ≥ 0 → q.num / (q.den : Int) = ((q.num.natAbs / q.den : Nat) : Int) := fun hn => by
    rw [Int.natCast_ediv]
    congr 1
    omega
  have hG : q.num < 0 → q.num / (q.den : Int) = -(if q.num.natAbs % q.den = 0 then ((q.num.natAbs / q.den : Nat) : Int) else ((q.num.natAbs / q.den : Nat) : Int) + 1) := fun hn => by
    have h5 := Nat.div_add_mod q.num.natAbs q.den
    have h6 := Nat.mod_lt q.num.natAbs hden
    generalize q.num.natAbs / q.den = F at *
    generalize q.num.natAbs % q.den = R at *
    have h7 : q.num = -((q.den * F + R : Nat) : Int) := by omega
    rw [h7]
    split
    · rename_i h0
      subst h0
      rw [show -((q.den * F + 0 : Nat) : Int) = (q.den : Int) * (-(F : Int)) by push_cast; rw [Int.mul_neg]; omega]
      exact Int.mul_ediv_cancel_left _ (by omega)
    · rename_i h0
      have h8 : -((q.den * F + R : Nat) : Int) = ((q.den - R : Nat) : Int) + (q.den : Int) * (-((F : Int) + 1)) := by
        rw [Int.ofNat_sub (by omega)]
        push_cast
        rw [Int.mul_neg, Int.mul_add]
        omega
      rw [h8, Int.add_mul_ediv_left _ _ (by omega), Int.ediv_eq_zero_of_lt (by omega) (by omega)]
      omega
  generalize q.num.natAbs / q.den = F at *
  generalize q.num.natAbs % q.den = R at *
  unfold limQ
  rw [if_pos trivial]
  by_cases hn : q.num < 0
  · rw [hG hn]
    by_cases c1 : (encS F).size ≤ 8 ∧ F < 9223372036854775808
    · rw [if_pos c1]
      simp only [hn, decide_true]
      by_cases c2 : (F : Int) > 4611686018427387904
      · rw [if_pos (.inr c2), if_neg (by split <;> omega)]
      · rw [if_neg (by simp; omega), if_neg (by simp)]
        simp only [decide_eq_true_eq]
        have c4 : (0 : Int) ≤ (if R = 0 then (F : Int) else (F : Int) + 1) := by split <;> omega
        generalize (if R = 0 then (F : Int) else (F : Int) + 1) = u at *
        by_cases c3 : u > 4611686018427387904
        · rw [if_pos c3, if_neg (by omega)]
        · rw [if_neg c3, if_pos (by omega)]
    · rw [if_neg c1, if_pos (.inl rfl), if_neg (by rw [e3] at c1; split <;> omega)]
  · rw [hF (by omega)]
    by_cases c1 : (encS F).size ≤ 8 ∧ F < 9223372036854775808
    · rw [if_pos c1]
      simp only [hn, decide_false]
      by_cases c2 : (F : Int) > 4611686018427387904
      · rw [if_pos (.inr c2), if_neg (by omega)]
      · rw [if_neg (by simp; omega)]
        first
        | rw [if_pos rfl, if_pos (by omega)]
        | rw [if_pos trivial, if_pos (by omega)]
    · rw [if_neg c1, if_pos (.inl rfl), if_neg (by rw [e3] at c1; omega)]
theorem ceil_toR {q : Rat} {k : Nat} (h : Bd q k) (hk : k ≤ 256) : ceilR (toR q) = (-(limQ (-q).floor).1, (limQ (-q).floor).2) := by
  unfold ceilR
  rw [check_toR h hk, neg_toR, floor_toR (neg_bd h) hk]
  rfl
theorem int_bd {n : Int} (h : inI n = true) : Bd (n : Rat) 8 := by
  unfold inI at h
  rw [Bool.and_eq_true, decide_eq_true_eq, decide_eq_true_eq] at h
  constructor
  · have : ((n : Rat).num) = n := Rat.num_intCast n
    rw [this, enc_length_le]
    omega
  · have : ((n : Rat).den) = 1 := Rat.den_intCast n
    rw [this, enc_length_le]
    omega
theorem new_toR {n d : Int} (hn : inI n = true) (hd : inI d = true) (h0 : d ≠ 0) : newR n d = (toR ((n : Rat) / (d : Rat)), 0) := by
  unfold newR
  rw [if_neg h0]
  have e1 : n.natAbs = (n * d.sign).natAbs := by rw [Int.natAbs_mul, Int.natAbs_sign_of_ne_zero h0]; simp
  have sn : Sn (decide (n < 0) != decide (d < 0)) (n * d.sign) := by
    have : decide (d < 0) = decide (d.sign < 0) := by
      rw [decide_eq_decide]
      by_cases hs : d < 0
      · rw [Int.sign_eq_neg_one_of_neg hs]; omega
      · rw [Int.sign_eq_one_of_pos (by omega)]; omega
    rw [this]
    exact sn_sign
  have s1 := sm_abs hn
  have s2 := sm_abs hd
  rw [e1] at s1 ⊢
  rw [over_toR (by omega) sn s1 s2]
  have key : mkRat (n * d.sign) d.natAbs = (n : Rat) / (d : Rat) := by
    rw [← Rat.divInt_eq_div]
    by_cases hs : d < 0
    · rw [Int.sign_eq_neg_one_of_neg hs]
      have : d = -(d.natAbs : Int) := by omega
      conv => rhs; rw [this]
      rw [Rat.divInt_neg', Rat.divInt_ofNat]
      congr 1
      omega
    · rw [Int.sign_eq_one_of_pos (by omega)]
      have : d = (d.natAbs : Int) := by omega
      conv => rhs; rw [this]
      rw [Rat.divInt_ofNat]
      congr 1
      omega
  rw [key]
  rfl
theorem toR_zero : (⟨false, bs [], bs [1]⟩ : Rt) = toR 0 := rfl
theorem toR_zero' : (⟨false, bs [], strOf [1]⟩ : Rt) = toR 0 := rfl
theorem toR_one' : (⟨false, strOf [1], strOf [1]⟩ : Rt) = toR 1 := rfl
theorem bd_zero : Bd 0 1 := ⟨by decide, by decide⟩
theorem bd_one : Bd 1 1 := ⟨by decide, by decide⟩

end Go.Proofs.Ytmcejefeloljiaa

/-
  The reference for ratios does what package ratios does: Add, Mul, Div, Compare, Floor, New; their table.
-/
namespace Go.Proofs.Ytmcejefeloljiaa
set_option linter.unusedSimpArgs false
set_option linter.unusedVariables false
open Go.RowKit Nm Go.SX

theorem low_over {n : Bool} {A D : Nat} (hA : Sm A) (hD : Sm D) (h0 : D ≠ 0) : resO (overO ⟨n, encS A⟩ (encS D)) = (lowS n (encS A) (encS D), 0) := by
  rw [over_small hA hD]
  unfold lowS overR resO
  have hg : 0 < Nat.gcd A D := Nat.gcd_pos_of_pos_right _ (by omega)
  have sg : Sm (Nat.gcd A D) := hD.mono (Nat.gcd_le_right _ (by omega))
  rw [gcdE hA hD, isE_encS]
  simp only
  rw [divE hA sg hg, divE hD sg hg, isE_encS]
  by_cases hz : A = 0
  · subst hz
    rw [decide_eq_true rfl, if_pos rfl, Nat.gcd_zero_left, Nat.zero_div, Nat.div_self (by omega), decide_eq_true rfl]
    simp only [Bool.not_true, Bool.and_false]
    rfl
  · rw [decide_eq_false hz]
    have h1 : A / Nat.gcd A D ≠ 0 := by
      have h2 := Nat.div_pos (Nat.le_of_dvd (by omega) (Nat.gcd_dvd_left A D)) hg
      omega
    rw [decide_eq_false h1]
    simp
/-- a valid ratio is two numbers -/
theorem valid_parts {n : Bool} {a b : ByteArray} (h : checkR ⟨n, a, b⟩ = 0) : ∃ A D, a = encS A ∧ b = encS D ∧ Sm A ∧ Sm D ∧ D ≠ 0 := by
  obtain ⟨q, hq, bq⟩ := valid_toR h
  have h2 : a = encS q.num.natAbs := congrArg Rt.n hq
  have h3 : b = encS q.den := congrArg Rt.d hq
  exact ⟨_, _, h2, h3, bq.n (by omega), bq.d (by omega), q.den_nz⟩
theorem timesL {m n : Nat} (hm : Sm m) (hn : Sm n) (h : ¬ Sm (m * n)) : timesO (encS m) (encS n) = none := by
  unfold timesO mustO
  rw [mulL hm hn h]
  rfl
theorem plusE {m n : Nat} (hm : Sm m) (hn : Sm n) (h : Sm (m + n)) : plusO (encS m) (encS n) = some (encS (m + n)) := by
  unfold plusO mustO
  rw [addE hm hn h]
  rfl
theorem plusL {m n : Nat} (hm : Sm m) (hn : Sm n) (h : ¬ Sm (m + n)) : plusO (encS m) (encS n) = none := by
  unfold plusO mustO
  rw [addL hm hn h]
  rfl
theorem minusE {m n : Nat} (hm : Sm m) (hn : Sm n) (h : n ≤ m) : mustO (subF (encS m) (encS n)) = some (encS (m - n)) := by
  rw [subE hm hn h]
  rfl
theorem two_ne : ((2 : Int) != 0) = true := rfl
theorem zz : ((0 : Int) != 0) = false := rfl
theorem smz {n : Nat} (h : Sm n) : szB (encS n) = true := szB_iff.2 (encS_max h)
theorem bs0 : bs [] = (⟨#[]⟩ : ByteArray) := rfl
set_option maxHeartbeats 2000000 in
theorem radd_end (n m : Bool) (a b c d : ByteArray) (ha : szB a = true) (hb : szB b = true) (hc : szB c = true) (hd : szB d = true) :
    sxEnd Try.prog Rd.no r7aCon.p 40 25 [.agg #[.bool n, .string a, .string b], .agg #[.bool m, .string c, .string d]] = some (.returned (resV (addR ⟨n, a, b⟩ ⟨m, c, d⟩))) := by
  rw [T_radd]
  simp only [ha, hb, hc, hd, Bool.and_self, cond_true]
  unfold addR both
  by_cases h1 : checkR ⟨n, a, b⟩ = 0
  · by_cases h2 : checkR ⟨m, c, d⟩ = 0
    · rw [if_pos h1, if_pos h2]
      have h1' : (checkR ⟨n, a, b⟩ != 0) = false := by simpa using h1
      have h2' : (checkR ⟨m, c, d⟩ != 0) = false := by simpa using h2
      rw [h1', h2']
      obtain ⟨A, B, rfl, rfl, sA, sB, nB⟩ := valid_parts h1
      obtain ⟨C, D, rfl, rfl, sC, sD, nD⟩ := valid_parts h2
      clear h1 h2 h1' h2'
      unfold addO
      simp only
      by_cases k3 : Sm (B * D)
      · rw [timesE sB sD k3, mulE sB sD k3]
        by_cases k1 : Sm (A * D)
        · rw [timesE sA sD k1, mulE sA sD k1]
          by_cases k2 : Sm (C * B)
          · rw [timesE sC sB k2, mulE sC sB k2]
            have nBD : B * D ≠ 0 := Nat.mul_ne_zero nB nD
            simp only [Option.bind_some, smz k1, smz k2, smz k3, Bool.and_self, cond_true, cond_false, zz]
            unfold saddO
            by_cases hnm : n = m
            · subst hnm
              simp only [beq_self_eq_true, cond_true, if_true]
              by_cases k4 : Sm (A * D + C * B)
              · rw [plusE k1 k2 k4, addE k1 k2 k4]
                simp only [Option.map_some, Option.bind_some, low_over k4 k3 nBD, zz, smz k4, smz k3, Bool.and_self, cond_true, cond_false]
                rfl
              · rw [plusL k1 k2 k4, addL k1 k2 k4]
                rfl
            · have hb2 : (n == m) = false := by simpa using hnm
              rw [hb2]
              simp only [cond_false, if_neg hnm]
              rw [lessE k1 k2, cmpE k1 k2]
              by_cases hl : A * D < C * B
              · have e1 : decide (cmpN (A * D) (C * B) ≥ 0) = false := by rw [cmpN_lt hl]; rfl
                rw [decide_eq_true hl, if_pos rfl, minusE k2 k1 (by omega), subE k2 k1 (by omega)]
                have k4 : Sm (C * B - A * D) := k2.mono (by omega)
                simp only [e1, Option.map_some, Option.bind_some, low_over k4 k3 nBD, smz k4, smz k3, Bool.and_self, cond_true, cond_false]
                rfl
              · have e1 : decide (cmpN (A * D) (C * B) ≥ 0) = true := by
                  by_cases he : A * D = C * B
                  · rw [cmpN_eq he]; rfl
                  · rw [cmpN_gt (by omega)]; rfl
                rw [decide_eq_false hl, if_neg (by decide), minusE k1 k2 (by omega), subE k1 k2 (by omega)]
                have k4 : Sm (A * D - C * B) := k1.mono (by omega)
                simp only [e1, Option.map_some, Option.bind_some, low_over k4 k3 nBD, smz k4, smz k3, Bool.and_self, cond_true, cond_false]
                rfl
          · rw [timesL sC sB k2, mulL sC sB k2]
            rfl
        · rw [timesL sA sD k1, mulL sA sD k1]
          rfl
      · rw [timesL sB sD k3, mulL sB sD k3]
        simp only [two_ne, cond_true, cond_false]
        cases (mulF (encS A) (encS D)).2 != 0 <;> cases (mulF (encS C) (encS B)).2 != 0 <;> rfl
    · have h2' : (checkR ⟨m, c, d⟩ != 0) = true := by simpa using h2
      have h3 : checkR ⟨m, c, d⟩ = 70 := by unfold checkR at h2 ⊢; split at h2 <;> simp_all
      simp [h1, h2, h2', h3, resV, rtV, zR, bs]
  · have h1' : (checkR ⟨n, a, b⟩ != 0) = true := by simpa using h1
    have h3 : checkR ⟨n, a, b⟩ = 70 := by unfold checkR at h1 ⊢; split at h1 <;> simp_all
    simp [h1, h1', h3, resV, rtV, zR, bs]
set_option maxHeartbeats 2000000 in
theorem rmul_end (n m : Bool) (a b c d : ByteArray) (ha : szB a = true) (hb : szB b = true) (hc : szB c = true) (hd : szB d = true) :
    sxEnd Try.prog Rd.no r7aCon.p 40 29 [.agg #[.bool n, .string a, .string b], .agg #[.bool m, .string c, .string d]] = some (.returned (resV (mulR ⟨n, a, b⟩ ⟨m, c, d⟩))) := by
  rw [T_rmul]
  simp only [ha, hb, hc, hd, Bool.and_self, cond_true]
  unfold mulR both
  by_cases h1 : checkR ⟨n, a, b⟩ = 0
  · by_cases h2 : checkR ⟨m, c, d⟩ = 0
    · rw [if_pos h1, if_pos h2]
      have h1' : (checkR ⟨n, a, b⟩ != 0) = false := by simpa using h1
      have h2' : (checkR ⟨m, c, d⟩ != 0) = false := by simpa using h2
      rw [h1', h2']
      obtain ⟨A, B, rfl, rfl, sA, sB, nB⟩ := valid_parts h1
      obtain ⟨C, D, rfl, rfl, sC, sD, nD⟩ := valid_parts h2
      clear h1 h2 h1' h2'
      unfold mulO
      simp only
      by_cases k1 : Sm (A * C)
      · rw [timesE sA sC k1, mulE sA sC k1]
        by_cases k3 : Sm (B * D)
        · rw [timesE sB sD k3, mulE sB sD k3]
          have nBD : B * D ≠ 0 := Nat.mul_ne_zero nB nD
          have hx : (!(n == m)) = (n != m) := rfl
          simp only [hx, Option.bind_some, low_over k1 k3 nBD, smz k1, smz k3, Bool.and_self, cond_true, cond_false, zz]
          rfl
        · rw [timesL sB sD k3, mulL sB sD k3]
          rfl
      · rw [timesL sA sC k1, mulL sA sC k1]
        rfl
    · have h2' : (checkR ⟨m, c, d⟩ != 0) = true := by simpa using h2
      have h3 : checkR ⟨m, c, d⟩ = 70 := by unfold checkR at h2 ⊢; split at h2 <;> simp_all
      simp [h1, h2, h2', h3, resV, rtV, zR, bs]
  · have h1' : (checkR ⟨n, a, b⟩ != 0) = true := by simpa using h1
    have h3 : checkR ⟨n, a, b⟩ = 70 := by unfold checkR at h1 ⊢; split at h1 <;> simp_all
    simp [h1, h1', h3, resV, rtV, zR, bs]
set_option maxHeartbeats 2000000 in
theorem rdiv_end (n m : Bool) (a b c d : ByteArray) (ha : szB a = true) (hb : szB b = true) (hc : szB c = true) (hd : szB d = true) :
    sxEnd Try.prog Rd.no r7aCon.p 40 31 [.agg #[.bool n, .string a, .string b], .agg #[.bool m, .string c, .string d]] = some (.returned (resV (divR ⟨n, a, b⟩ ⟨m, c, d⟩))) := by
  rw [T_rdiv]
  simp only [ha, hb, hc, hd, Bool.and_self, cond_true, eqL, ← isE_bs]
  unfold divR both
  by_cases h1 : checkR ⟨n, a, b⟩ = 0
  · by_cases h2 : checkR ⟨m, c, d⟩ = 0
    · rw [if_pos h1, if_pos h2]
      have h1' : (checkR ⟨n, a, b⟩ != 0) = false := by simpa using h1
      have h2' : (checkR ⟨m, c, d⟩ != 0) = false := by simpa using h2
      rw [h1', h2']
      obtain ⟨A, B, rfl, rfl, sA, sB, nB⟩ := valid_parts h1
      obtain ⟨C, D, rfl, rfl, sC, sD, nD⟩ := valid_parts h2
      clear h1 h2 h1' h2'
      unfold mulO
      simp only [isE_encS]
      by_cases hC : C = 0
      · rw [decide_eq_true hC]
        rfl
      · rw [decide_eq_false hC]
        simp only [Bool.false_eq_true, if_false, cond_false]
        by_cases k1 : Sm (A * D)
        · rw [timesE sA sD k1, mulE sA sD k1]
          by_cases k3 : Sm (B * C)
          · rw [timesE sB sC k3, mulE sB sC k3]
            have nBD : B * C ≠ 0 := Nat.mul_ne_zero nB hC
            have hx : (!(n == m)) = (n != m) := rfl
            simp only [hx, Option.bind_some, low_over k1 k3 nBD, smz k1, smz k3, Bool.and_self, cond_true, cond_false, zz]
            rfl
          · rw [timesL sB sC k3, mulL sB sC k3]
            rfl
        · rw [timesL sA sD k1, mulL sA sD k1]
          rfl
    · have h2' : (checkR ⟨m, c, d⟩ != 0) = true := by simpa using h2
      have h3 : checkR ⟨m, c, d⟩ = 70 := by unfold checkR at h2 ⊢; split at h2 <;> simp_all
      simp [h1, h2, h2', h3, resV, rtV, zR, bs]
  · have h1' : (checkR ⟨n, a, b⟩ != 0) = true := by simpa using h1
    have h3 : checkR ⟨n, a, b⟩ = 70 := by unfold checkR at h1 ⊢; split at h1 <;> simp_all
    simp [h1, h1', h3, resV, rtV, zR, bs]
set_option maxHeartbeats 4000000 in
theorem rcmp_end (n m : Bool) (a b c d : ByteArray) (ha : szB a = true) (hb : szB b = true) (hc : szB c = true) (hd : szB d = true) :
    sxEnd Try.prog Rd.no r7aCon.p 40 33 [.agg #[.bool n, .string a, .string b], .agg #[.bool m, .string c, .string d]] = some (.returned (intV (cmpR ⟨n, a, b⟩ ⟨m, c, d⟩))) := by
  rw [T_rcmp]
  simp only [ha, hb, hc, hd, Bool.and_self, cond_true]
  unfold cmpR
  by_cases h1 : checkR ⟨n, a, b⟩ = 0
  · by_cases h2 : checkR ⟨m, c, d⟩ = 0
    · rw [if_pos h1, if_pos h2]
      have h1' : (checkR ⟨n, a, b⟩ != 0) = false := by simpa using h1
      have h2' : (checkR ⟨m, c, d⟩ != 0) = false := by simpa using h2
      rw [h1', h2']
      obtain ⟨A, B, rfl, rfl, sA, sB, nB⟩ := valid_parts h1
      obtain ⟨C, D, rfl, rfl, sC, sD, nD⟩ := valid_parts h2
      clear h1 h2 h1' h2'
      simp only
      by_cases k1 : Sm (A * D)
      · rw [timesE sA sD k1, mulE sA sD k1]
        by_cases k2 : Sm (C * B)
        · rw [timesE sC sB k2, mulE sC sB k2]
          simp only [zz, cond_false, smz k1, smz k2, Bool.and_self, cond_true, cmpE k1 k2]
          unfold ordS
          rw [lessE k1 k2, lessE k2 k1]
          have hi : encS (A * D) = encS (C * B) ↔ A * D = C * B := ⟨encS_inj, fun e => by rw [e]⟩
          simp only [hi]
          rcases Nat.lt_trichotomy (A * D) (C * B) with hl | hl | hl
          · have g1 : ¬ A * D = C * B := by omega
            have g2 : ¬ C * B < A * D := by omega
            rw [cmpN_lt hl, decide_eq_true hl, decide_eq_false g2]
            cases n <;> cases m <;> simp [g1, intV] <;> rfl
          · have g2 : ¬ C * B < A * D := by omega
            have g3 : ¬ A * D < C * B := by omega
            rw [cmpN_eq hl, decide_eq_false g2, decide_eq_false g3]
            cases n <;> cases m <;> simp [hl, intV] <;> rfl
          · have g1 : ¬ A * D = C * B := by omega
            have g3 : ¬ A * D < C * B := by omega
            rw [cmpN_gt hl, decide_eq_true hl, decide_eq_false g3]
            cases n <;> cases m <;> simp [g1, intV] <;> rfl
        · rw [timesL sC sB k2, mulL sC sB k2]
          rfl
      · rw [timesL sA sD k1, mulL sA sD k1]
        rfl
    · have h2' : (checkR ⟨m, c, d⟩ != 0) = true := by simpa using h2
      have h3 : checkR ⟨m, c, d⟩ = 70 := by unfold checkR at h2 ⊢; split at h2 <;> simp_all
      simp [h1, h2, h2', h3, intV]
  · have h1' : (checkR ⟨n, a, b⟩ != 0) = true := by simpa using h1
    have h3 : checkR ⟨n, a, b⟩ = 70 := by unfold checkR at h1 ⊢; split at h1 <;> simp_all
    simp [h1, h1', h3, intV]
theorem rnew_end (n d : Int) (hn : inI n = true) (hd : inI d = true) : sxEnd Try.prog Rd.no r7aCon.p 40 15 [.int .i64 n, .int .i64 d] = some (.returned (resV (newR n d))) := by
  rw [T_rnew]
  unfold newR
  by_cases h0 : d = 0
  · subst h0
    rfl
  · have hb0 : (d == 0) = false := by simpa using h0
    have s1 := sm_abs hn
    have s2 := sm_abs hd
    have hx : (!(decide (n < 0) == decide (d < 0))) = (decide (n < 0) != decide (d < 0)) := rfl
    rw [if_neg h0, low_over s1 s2 (by omega)]
    simp only [hb0, hn, hd, smz s1, smz s2, Bool.and_self, cond_true, cond_false, hx]
    rfl
theorem int_encS (F : Nat) : intF (encS F) = if F < 9223372036854775808 then ((F : Int), true) else (0, false) := by
  unfold intF
  rw [isN_encS, nv_encS]
  by_cases h : F < 9223372036854775808
  · have hs : (encS F).size ≤ 8 := (encS_size_le _ _).2 (Nat.lt_of_lt_of_le h (by decide))
    rw [if_pos h, if_pos ⟨rfl, hs, h⟩]
  · rw [if_neg h, if_neg (fun h2 => h h2.2.2)]
set_option maxHeartbeats 4000000 in
theorem rfloor_end (n : Bool) (a b : ByteArray) (ha : szB a = true) (hb : szB b = true) :
    sxEnd Try.prog Rd.no r7aCon.p 40 17 [.agg #[.bool n, .string a, .string b]] = some (.returned (intV (floorR ⟨n, a, b⟩))) := by
  rw [T_rfloor]
  simp only [ha, hb, Bool.and_self, cond_true, eqL, ← isE_bs]
  unfold floorR
  by_cases h1 : checkR ⟨n, a, b⟩ = 0
  · rw [if_pos h1]
    have h1' : (checkR ⟨n, a, b⟩ != 0) = false := by simpa using h1
    rw [h1']
    obtain ⟨A, B, rfl, rfl, sA, sB, nB⟩ := valid_parts h1
    clear h1 h1'
    simp only
    rw [divE sA sB (by omega)]
    have sF : Sm (A / B) := sA.mono (Nat.div_le_self _ _)
    generalize A / B = F at *
    generalize A % B = R at *
    simp only [isE_encS, int_encS, smz sF, cond_true, cond_false]
    have hsz : ((((encS F).size : Nat) : Int) > 8) ↔ ¬ F < 18446744073709551616 := by
      have := encS_size_le F 8
      rw [show (256 : Nat) ^ 8 = 18446744073709551616 by decide] at this
      omega
    by_cases c1 : F < 18446744073709551616
    · rw [decide_eq_false (fun h => (hsz.1 h) c1)]
      have b1 : szB (bs [1]) = true := rfl
      have e1 : bs [1] = encS 1 := rfl
      have sO : Sm 1 := by unfold Sm; decide +kernel
      have sF1 : Sm (F + 1) := by
        have := enc_sm (n := F + 1) (by omega)
        rwa [size_encS'] at this
      rw [b1, e1, addE sF sO sF1]
      simp only [int_encS, smz sF1, Bool.and_self, cond_true, cond_false]
      by_cases c2 : F < 9223372036854775808
      · by_cases c3 : F + 1 < 9223372036854775808
        · have w1 : IntKind.i64.wrap (0 - (F : Int)) = -(F : Int) := by rw [wrapI (by omega) (by omega)]; omega
          have w2 : IntKind.i64.wrap (0 - ((F + 1 : Nat) : Int)) = -((F : Int) + 1) := by rw [wrapI (by omega) (by omega)]; omega
          rw [if_pos c2, if_pos c3]
          simp only [w1, w2, Bool.not_true, cond_false]
          cases n
          · by_cases c4 : (F : Int) > 4611686018427387904
            · simp [c4, intV]
            · simp [c4, intV]
          · by_cases c5 : R = 0
            · by_cases c4 : (F : Int) > 4611686018427387904
              · simp [c4, c5, intV]
              · simp [c4, c5, intV]
            · by_cases c4 : (F : Int) > 4611686018427387904
              · have c6 : ((F : Int) + 1) > 4611686018427387904 := by omega
                simp [c4, c5, c6, intV]
              · by_cases c6 : ((F : Int) + 1) > 4611686018427387904
                · simp [c4, c5, c6, intV]
                · simp [c4, c5, c6, intV]
        · have hF : F = 9223372036854775807 := by omega
          subst hF
          have w1 : IntKind.i64.wrap (0 - ((9223372036854775807 : Nat) : Int)) = -9223372036854775807 := by rw [wrapI (by omega) (by omega)]; omega
          cases n
          · rfl
          · by_cases c5 : R = 0
            · simp [c5, intV]
            · simp [c5, intV]
      · have c3 : ¬ F + 1 < 9223372036854775808 := by omega
        rw [if_neg c2, if_neg c3]
        cases n
        · rfl
        · by_cases c5 : R = 0
          · simp [c5, intV]
          · simp [c5, intV]
    · rw [decide_eq_true (hsz.2 c1), if_neg (by omega)]
      simp [intV]
  · have h1' : (checkR ⟨n, a, b⟩ != 0) = true := by simpa using h1
    have h3 : checkR ⟨n, a, b⟩ = 70 := by unfold checkR at h1 ⊢; split at h1 <;> simp_all
    simp [h1, h1', h3, intV]

def r7bCon : ECon := fun f =>
  match f with
  | 25 => some (binR addR)
  | 29 => some (binR mulR)
  | 31 => some (binR divR)
  | 33 => some fun vs => match vs with
    | [.agg ⟨[.bool n, .string a, .string b]⟩, .agg ⟨[.bool m, .string c, .string d]⟩] => .need (szB a && szB b && (szB c && szB d)) (retI (cmpR ⟨n, a, b⟩ ⟨m, c, d⟩))
    | _ => .no
  | 17 => some fun vs => match vs with
    | [.agg ⟨[.bool n, .string a, .string b]⟩] => .need (szB a && szB b) (retI (floorR ⟨n, a, b⟩))
    | _ => .no
  | 15 => some fun vs => match vs with
    | [.int .i64 n, .int .i64 d] => .need (inI n && inI d) (retR (newR n d))
    | _ => .no
  | f => r7aCon f
theorem r7bCon_ok : EConOk Try.prog r7bCon := by
  have pl : ∀ {f : FuncId} {vs : List Value} {e0 : Ending}, sxEnd Try.prog Rd.no r7aCon.p 40 f vs = some e0 → Plain Try.prog f vs e0 := fun h => plain_sound pOk (ECon.ok r7aCon_ok) 40 h
  intro f h hf
  unfold r7bCon at hf
  split at hf
  · cases hf; exact ⟨⟨_, Try.func25, rfl⟩, binR_ok fun n m a b c d h1 h2 h3 h4 => pl (radd_end n m a b c d h1 h2 h3 h4)⟩
  · cases hf; exact ⟨⟨_, Try.func29, rfl⟩, binR_ok fun n m a b c d h1 h2 h3 h4 => pl (rmul_end n m a b c d h1 h2 h3 h4)⟩
  · cases hf; exact ⟨⟨_, Try.func31, rfl⟩, binR_ok fun n m a b c d h1 h2 h3 h4 => pl (rdiv_end n m a b c d h1 h2 h3 h4)⟩
  · cases hf
    refine ⟨⟨_, Try.func33, rfl⟩, fun vs e he => ?_⟩
    simp only at he
    split at he
    · obtain ⟨h1, h2⟩ := R3.need_some he
      cases h2
      simp only [Bool.and_eq_true] at h1
      exact ⟨_, rfl, pl (rcmp_end _ _ _ _ _ _ h1.1.1 h1.1.2 h1.2.1 h1.2.2)⟩
    · cases he
  · cases hf
    refine ⟨⟨_, Try.func17, rfl⟩, fun vs e he => ?_⟩
    simp only at he
    split at he
    · obtain ⟨h1, h2⟩ := R3.need_some he
      cases h2
      rw [Bool.and_eq_true] at h1
      exact ⟨_, rfl, pl (rfloor_end _ _ _ h1.1 h1.2)⟩
    · cases he
  · cases hf
    refine ⟨⟨_, Try.func15, rfl⟩, fun vs e he => ?_⟩
    simp only at he
    split at he
    · obtain ⟨h1, h2⟩ := R3.need_some he
      cases h2
      rw [Bool.and_eq_true] at h1
      exact ⟨_, rfl, pl (rnew_end _ _ h1.1 h1.2)⟩
    · cases he
  · exact r7aCon_ok _ _ hf

end Go.Proofs.Ytmcejefeloljiaa

/-
  What the symbolic executor shows of Sub and Ceil of the reference for ratios.
-/
namespace Go.Proofs.Ytmcejefeloljiaa
open Go.RowKit Nm Go.SX

set_option maxRecDepth 100000 in
theorem T_rsub (n m : Bool) (a b c d : ByteArray) : sxEnd Try.prog Rd.no r7bCon.p 40 27 [.agg #[.bool n, .string a, .string b], .agg #[.bool m, .string c, .string d]] =
    bif szB a && szB b then
      bif checkR { neg := n, n := a, d := b } != 0 then
        some
          (Ending.returned
            (Value.tuple
              {
                toList :=
                  [Value.agg { toList := [Value.bool false, Value.string (bs []), Value.string (bs [])] },
                    Value.int IntKind.i64 70] }))
      else
        bif szB c && szB d then
          bif checkR { neg := m, n := c, d := d } != 0 then
            some
              (Ending.returned
                (Value.tuple
                  {
                    toList :=
                      [Value.agg
                          { toList := [Value.bool false, Value.string (bs []), Value.string (bs [])] },
                        Value.int IntKind.i64 70] }))
          else
            bif !m then
              bif szB a && szB b && (szB c && szB d) then
                some
                  (Ending.returned
                    (Value.tuple
                      {
                        toList :=
                          [Value.agg
                              {
                                toList :=
                                  [Value.bool
                                      (addR { neg := n, n := a, d := b }
                                            { neg := !c.toList == (bs []).toList, n := c, d := d }).fst.neg,
                                    Value.string
                                      (addR { neg := n, n := a, d := b }
                                            { neg := !c.toList == (bs []).toList, n := c, d := d }).fst.n,
                                    Value.string
                                      (addR { neg := n, n := a, d := b }
                                            { neg := !c.toList == (bs []).toList, n := c, d := d }).fst.d] },
                            Value.int IntKind.i64
                              (addR { neg := n, n := a, d := b }
                                  { neg := !c.toList == (bs []).toList, n := c, d := d }).snd] }))
              else none
            else
              bif szB a && szB b && (szB c && szB d) then
                some
                  (Ending.returned
                    (Value.tuple
                      {
                        toList :=
                          [Value.agg
                              {
                                toList :=
                                  [Value.bool (addR { neg := n, n := a, d := b } { neg := false, n := c, d := d }).fst.neg,
                                    Value.string (addR { neg := n, n := a, d := b } { neg := false, n := c, d := d }).fst.n,
                                    Value.string
                                      (addR { neg := n, n := a, d := b } { neg := false, n := c, d := d }).fst.d] },
                            Value.int IntKind.i64
                              (addR { neg := n, n := a, d := b } { neg := false, n := c, d := d }).snd] }))
              else none
        else none
    else none := by kernel_rfl
set_option maxRecDepth 100000 in
theorem T_rceil (n : Bool) (a b : ByteArray) : sxEnd Try.prog Rd.no r7bCon.p 40 19 [.agg #[.bool n, .string a, .string b]] =
    bif szB a && szB b then
      bif checkR { neg := n, n := a, d := b } != 0 then
        some (Ending.returned (Value.tuple { toList := [Value.int IntKind.i64 0, Value.int IntKind.i64 70] }))
      else
        bif !n then
          bif szB a && szB b then
            some
              (Ending.returned
                (Value.tuple
                  {
                    toList :=
                      [Value.int IntKind.i64
                          (IntKind.i64.wrap
                            (0 - (floorR { neg := !a.toList == (bs []).toList, n := a, d := b }).fst)),
                        Value.int IntKind.i64
                          (floorR { neg := !a.toList == (bs []).toList, n := a, d := b }).snd] }))
          else none
        else
          bif szB a && szB b then
            some
              (Ending.returned
                (Value.tuple
                  {
                    toList :=
                      [Value.int IntKind.i64 (IntKind.i64.wrap (0 - (floorR { neg := false, n := a, d := b }).fst)),
                        Value.int IntKind.i64 (floorR { neg := false, n := a, d := b }).snd] }))
          else none
    else none := by kernel_rfl

end Go.Proofs.Ytmcejefeloljiaa

/-
  The reference for ratios: Sub, Ceil; the table for the laws of chapter 07.
-/
namespace Go.Proofs.Ytmcejefeloljiaa
set_option linter.unusedSimpArgs false
set_option linter.unusedVariables false
open Go.RowKit Nm Go.SX

theorem chk70 {x : Rt} (h : ¬ checkR x = 0) : checkR x = 70 := by unfold checkR at h ⊢; split at h <;> simp_all
theorem rsub_end (n m : Bool) (a b c d : ByteArray) (ha : szB a = true) (hb : szB b = true) (hc : szB c = true) (hd : szB d = true) :
    sxEnd Try.prog Rd.no r7bCon.p 40 27 [.agg #[.bool n, .string a, .string b], .agg #[.bool m, .string c, .string d]] = some (.returned (resV (subR ⟨n, a, b⟩ ⟨m, c, d⟩))) := by
  rw [T_rsub]
  simp only [ha, hb, hc, hd, Bool.and_self, cond_true, eqL, ← isE_bs]
  unfold subR both
  by_cases h1 : checkR ⟨n, a, b⟩ = 0
  · by_cases h2 : checkR ⟨m, c, d⟩ = 0
    · have h1' : (checkR ⟨n, a, b⟩ != 0) = false := by simpa using h1
      have h2' : (checkR ⟨m, c, d⟩ != 0) = false := by simpa using h2
      have h3 := check_neg _ h2
      rw [if_pos h1, if_pos h2, h1', h2']
      have key : addR ⟨n, a, b⟩ (negR ⟨m, c, d⟩) = resO (addO ⟨n, a, b⟩ (negR ⟨m, c, d⟩)) := by
        unfold addR both
        rw [if_pos h1, if_pos h3]
      rw [← key]
      unfold negR
      cases m <;> rfl
    · have h2' : (checkR ⟨m, c, d⟩ != 0) = true := by simpa using h2
      simp [h1, h2, h2', chk70 h2, resV, rtV, zR, bs]
  · have h1' : (checkR ⟨n, a, b⟩ != 0) = true := by simpa using h1
    simp [h1, h1', chk70 h1, resV, rtV, zR, bs]
theorem rceil_end (n : Bool) (a b : ByteArray) (ha : szB a = true) (hb : szB b = true) :
    sxEnd Try.prog Rd.no r7bCon.p 40 19 [.agg #[.bool n, .string a, .string b]] = some (.returned (intV (ceilR ⟨n, a, b⟩))) := by
  rw [T_rceil]
  simp only [ha, hb, Bool.and_self, cond_true, eqL, ← isE_bs]
  unfold ceilR intV
  have w : ∀ x : Rt, IntKind.i64.wrap (0 - (floorR x).1) = -(floorR x).1 := fun x => by
    have := floorR_range x
    rw [wrapI (by omega) (by omega)]
    omega
  simp only [w]
  by_cases h1 : checkR ⟨n, a, b⟩ = 0
  · have h1' : (checkR ⟨n, a, b⟩ != 0) = false := by simpa using h1
    rw [if_pos h1, h1']
    unfold negR
    cases n <;> rfl
  · have h1' : (checkR ⟨n, a, b⟩ != 0) = true := by simpa using h1
    simp [h1, h1', chk70 h1]
def r7Con : ECon := fun f =>
  match f with
  | 27 => some (binR subR)
  | 19 => some fun vs => match vs with
    | [.agg ⟨[.bool n, .string a, .string b]⟩] => .need (szB a && szB b) (retI (ceilR ⟨n, a, b⟩))
    | _ => .no
  | 12 => some fun vs => match vs with | [] => .ok (.ret (.val (.bool true))) | _ => .no
  | f => r7bCon f
theorem r7Con_ok : EConOk Try.prog r7Con := by
  have pl : ∀ {f : FuncId} {vs : List Value} {e0 : Ending}, sxEnd Try.prog Rd.no r7bCon.p 40 f vs = some e0 → Plain Try.prog f vs e0 := fun h => plain_sound pOk (ECon.ok r7bCon_ok) 40 h
  intro f h hf
  unfold r7Con at hf
  split at hf
  · cases hf; exact ⟨⟨_, Try.func27, rfl⟩, binR_ok fun n m a b c d h1 h2 h3 h4 => pl (rsub_end n m a b c d h1 h2 h3 h4)⟩
  · cases hf
    refine ⟨⟨_, Try.func19, rfl⟩, fun vs e he => ?_⟩
    simp only at he
    split at he
    · obtain ⟨h1, h2⟩ := R3.need_some he
      cases h2
      rw [Bool.and_eq_true] at h1
      exact ⟨_, rfl, pl (rceil_end _ _ _ h1.1 h1.2)⟩
    · cases he
  · cases hf
    refine ⟨⟨_, Try.func12, rfl⟩, fun vs e he => ?_⟩
    simp only at he
    split at he
    · cases he
      exact ⟨_, rfl, plain_sound pOk (ECon.ok (fltCon_ok apiCon_ok)) 60 T_sane⟩
    · cases he
  · exact r7bCon_ok _ _ hf

end Go.Proofs.Ytmcejefeloljiaa

/-
  What the symbolic executor shows of the law of Add, Sub, Mul, Div and Compare.
-/
namespace Go.Proofs.Ytmcejefeloljiaa
open Go.RowKit Nm Go.SX

set_option maxRecDepth 100000 in
theorem T_arith (x y : Rt) : sxEnd Try.prog Rd.no r7Con.p 60 4 [.agg #[.bool x.neg, .string x.n, .string x.d], .agg #[.bool y.neg, .string y.n, .string y.d]] =
    bif decide ((↑x.n.size : Int) ≤ 300) then
      bif !decide ((↑x.d.size : Int) ≤ 300) then some (Ending.returned (Value.bool true))
      else
        bif decide ((↑y.n.size : Int) ≤ 300) then
          bif !decide ((↑y.d.size : Int) ≤ 300) then some (Ending.returned (Value.bool true))
          else
            bif szB x.n && szB x.d && (szB y.n && szB y.d) then
              bif szB x.n && szB x.d && (szB y.n && szB y.d) then
                bif szB x.n && szB x.d && (szB y.n && szB y.d) then
                  bif szB x.n && szB x.d && (szB y.n && szB y.d) then
                    bif
                        !((addR x y).fst.neg == (addR x y).fst.neg &&
                            ((addR x y).fst.n == (addR x y).fst.n && ((addR x y).fst.d == (addR x y).fst.d && true))) then
                      some (Ending.returned (Value.bool false))
                    else
                      bif (addR x y).snd != (addR x y).snd then some (Ending.returned (Value.bool false))
                      else
                        bif
                            !((subR x y).fst.neg == (subR x y).fst.neg &&
                                ((subR x y).fst.n == (subR x y).fst.n &&
                                  ((subR x y).fst.d == (subR x y).fst.d && true))) then
                          some (Ending.returned (Value.bool false))
                        else
                          bif (subR x y).snd != (subR x y).snd then some (Ending.returned (Value.bool false))
                          else
                            bif szB x.n && szB x.d && (szB y.n && szB y.d) then
                              bif szB x.n && szB x.d && (szB y.n && szB y.d) then
                                bif szB x.n && szB x.d && (szB y.n && szB y.d) then
                                  bif szB x.n && szB x.d && (szB y.n && szB y.d) then
                                    bif szB x.n && szB x.d && (szB y.n && szB y.d) then
                                      bif szB x.n && szB x.d && (szB y.n && szB y.d) then
                                        bif
                                            (mulR x y).fst.neg == (mulR x y).fst.neg &&
                                              ((mulR x y).fst.n == (mulR x y).fst.n &&
                                                ((mulR x y).fst.d == (mulR x y).fst.d && true)) then
                                          bif (mulR x y).snd == (mulR x y).snd then
                                            bif
                                                (divR x y).fst.neg == (divR x y).fst.neg &&
                                                  ((divR x y).fst.n == (divR x y).fst.n &&
                                                    ((divR x y).fst.d == (divR x y).fst.d && true)) then
                                              bif (divR x y).snd == (divR x y).snd then
                                                bif (cmpR x y).fst == (cmpR x y).fst then
                                                  some (Ending.returned (Value.bool ((cmpR x y).snd == (cmpR x y).snd)))
                                                else some (Ending.returned (Value.bool false))
                                              else some (Ending.returned (Value.bool false))
                                            else some (Ending.returned (Value.bool false))
                                          else some (Ending.returned (Value.bool false))
                                        else some (Ending.returned (Value.bool false))
                                      else none
                                    else none
                                  else none
                                else none
                              else none
                            else none
                  else none
                else none
              else none
            else none
        else some (Ending.returned (Value.bool true))
    else some (Ending.returned (Value.bool true)) := by kernel_rfl

end Go.Proofs.Ytmcejefeloljiaa

/-
  Facts for the laws of package ratios.
-/
namespace Go.Proofs.Ytmcejefeloljiaa
open Go.RowKit Nm Go.SX

theorem rt_eq (a b : Rt) : (a.neg == b.neg && (a.n == b.n && (a.d == b.d && true))) = true ↔ a = b := by
  obtain ⟨n, x, y⟩ := a
  obtain ⟨m, u, v⟩ := b
  simp only [beqB, Rt.mk.injEq, Bool.and_true, Bool.and_eq_true, decide_eq_true_eq, beq_iff_eq]
theorem eqT (p q : Rat) : ((toR p).neg == (toR q).neg && ((toR p).n == (toR q).n && ((toR p).d == (toR q).d && true))) = decide (p = q) := by
  rw [Bool.eq_iff_iff, rt_eq, toR_iff, decide_eq_true_eq]
theorem eqZ (p : Rat) : ((toR p).neg == false && ((toR p).n == bs [] && ((toR p).d == strOf [1] && true))) = decide (p = 0) := by
  have := eqT p 0
  rwa [← toR_zero'] at this
theorem szE {q : Rat} {k : Nat} (h : Bd q k) (hk : k ≤ 256) : (szB (toR q).n && szB (toR q).d) = true := by
  rw [(h.zR hk).1, (h.zR hk).2]
  rfl
theorem sz_nil : szB (bs []) = true := rfl
theorem sz_one : szB (strOf [1]) = true := rfl

end Go.Proofs.Ytmcejefeloljiaa

/-
  The law of Add, Sub, Mul, Div and Compare.
-/
namespace Go.Proofs.Ytmcejefeloljiaa
set_option linter.unusedSimpArgs false
set_option linter.unusedVariables false
open Go.RowKit Nm Go.SX

theorem rtT (a : Rt) : (a.neg == a.neg && (a.n == a.n && (a.d == a.d && true))) = true := (rt_eq a a).2 rfl
theorem bbT (x : ByteArray) : (x == x) = true := by rw [beqB]; exact decide_eq_true rfl
theorem arith_end (x y : Rt) (hx : (szB x.n && szB x.d) = true) (hy : (szB y.n && szB y.d) = true) :
    sxEnd Try.prog Rd.no r7Con.p 60 4 [rtV x, rtV y] = some (.returned (.bool true)) := by
  unfold rtV
  rw [T_arith]
  simp only [hx, hy, bbT, Bool.true_and, Bool.and_self, cond_true, cond_false, Bool.not_true, bne_self_eq_false, beq_self_eq_true]
  cases decide (((x.n.size : Nat) : Int) ≤ 300) <;> cases decide (((x.d.size : Nat) : Int) ≤ 300) <;> cases decide (((y.n.size : Nat) : Int) ≤ 300) <;> cases decide (((y.d.size : Nat) : Int) ≤ 300) <;> rfl
theorem ratiosArithSpec_walk (x y : Rt) (hx : (szB x.n && szB x.d) = true) (hy : (szB y.n && szB y.d) = true) :
    Plain Try.prog 4 [rtV x, rtV y] (.returned (.bool true)) := plain_sound pOk (ECon.ok r7Con_ok) 60 (arith_end x y hx hy)

end Go.Proofs.Ytmcejefeloljiaa

/-
  A symbolic executor: loops.
-/
namespace Go.SX
set_option linter.unusedVariables false
set_option linter.unusedSimpArgs false
open Go.RowKit

/-- the bodies of the loops of some code -/
def loops : Code → List Code
  | .seq a b => loops a ++ loops b
  | .cond _ a b => loops a ++ loops b
  | .block _ a => loops a
  | .loop a => a :: loops a
  | .scope a => loops a
  | _ => []
theorem sub_loops {a b c : Code} (h : Sub c b) (hc : c = .loop a) : a ∈ loops b := by
  induction h with
  | refl => subst hc; simp [loops]
  | seqL _ ih => simp [loops, ih]
  | seqR _ ih => simp [loops, ih]
  | condL _ ih => simp [loops, ih]
  | condR _ ih => simp [loops, ih]
  | block _ ih => simpa [loops] using ih
  | loop _ ih => simp [loops, ih]
  | scope _ ih => simpa [loops] using ih
/-- the loops of a function whose body begins with a region of this number -/
def loopsAt (P : Program) (f : FuncId) (id : Nat) : List Code :=
  match P.funcs[f]? with
  | some fn => match fn.body with
    | some b => (loops b).filter fun c => fr c == id
    | none => []
  | none => []
def loopAt (P : Program) (f : FuncId) (id : Nat) : Code := (loopsAt P f id).headD .skip
theorem loopAt_eq {P : Program} {f : FuncId} {id : Nat} {c : Code} (h1 : (loopsAt P f id).length = 1) (hin : InF P f (.loop c)) (hid : fr c = id) : c = loopAt P f id := by
  obtain ⟨fn, body, hf, hb, hs⟩ := hin
  have hm : c ∈ loopsAt P f id := by
    unfold loopsAt
    rw [hf]
    simp only [hb]
    rw [List.mem_filter]
    exact ⟨sub_loops hs rfl, by simpa using hid⟩
  unfold loopAt
  cases hl : loopsAt P f id with
  | nil => rw [hl] at hm; cases hm
  | cons x l =>
    rw [hl] at hm h1
    cases l with
    | nil => simpa using hm
    | cons y l => simp at h1
theorem loopAt_in {P : Program} {f : FuncId} {id : Nat} (h : InF P f (.loop (loopAt P f id))) : InF P f (loopAt P f id) := h.sub (.loop (.refl _))

mutual
/-- other numbers -/
def SV.ren (π : Nat → Option Nat) : SV → SV
  | .val v => .val v
  | .any => .any
  | .ptr i off => match π i with
    | some j => .ptr j off
    | none => .any
  | .sl i off n c => match π i with
    | some j => .sl j off n c
    | none => .any
  | .mp i => match π i with
    | some j => .mp j
    | none => .any
  | .agg l => .agg (SV.renL π l)
  | .tup l => .tup (SV.renL π l)
  | .clo fn l c => .clo fn (SV.renL π l) (SV.renL π c)
  | .dsl t l => .dsl t l
  | .dpt t y off => .dpt t y off
  | .vec i => match π i with
    | some j => .vec j
    | none => .any
  | .wpt i s k o => match π i with
    | some j => .wpt j s k o
    | none => .any
  | .emp => .emp
def SV.renL (π : Nat → Option Nat) : List SV → List SV
  | [] => []
  | x :: l => x.ren π :: SV.renL π l
end
def Blk.ren (π : Nat → Option Nat) : Blk → Blk
  | .dead => .dead
  | .cells l t w => .cells (SV.renL π l) t w
  | .mp l => .mp (l.map fun kv => (kv.1, kv.2.ren π))
  | .vec t l b => .vec t l b
  | .pm kt vt l => .pm kt vt l
def posOf : List Nat → Nat → Option Nat
  | [], _ => none
  | x :: l, i => if x = i then some 0 else (posOf l i).map (· + 1)
theorem posOf_get : ∀ {l : List Nat} {i j : Nat}, posOf l i = some j → l[j]? = some i
  | [], _, _, h => by simp [posOf] at h
  | x :: l, i, j, h => by
    unfold posOf at h
    split at h
    · rename_i e; cases h; simp [e]
    · simp only [Option.map_eq_some_iff] at h
      obtain ⟨k, h1, rfl⟩ := h
      simpa using posOf_get h1
def St.ren (ns : List Nat) (s : St) : St := { t := SV.renL (posOf ns) s.t, m := ns.map fun i => ((nth s.m i).getD .dead).ren (posOf ns), d := s.d }
/-- the numbers that came in keep their places, none stands twice -/
def renB (n0 : Nat) (ns : List Nat) : Bool := (List.range n0).all (fun i => nth ns i == some i) && decide ns.Nodup

section
variable {E : Env} {P : Program} {rd : Rd} {ρ ρ' : Ctx} {s s' : St} {a : Act} {w w' : World} {v : SV} {u : Value} {β : Type} {out : β} {Q : Exit → Act → World → Prop}

def renC (ρ : Ctx) (ns : List Nat) : Ctx := ⟨fun j => (ns[j]?).bind ρ.b, fun j => (ns[j]?).bind ρ.v, ρ.z⟩
mutual
theorem ren_R {ns : List Nat} : ∀ (x : SV) (u : Value), x.R ρ u → (x.ren (posOf ns)).R (renC ρ ns) u
  | .val _, _, h => h
  | .any, _, h => h
  | .ptr i off, u, ⟨b, h1, h2⟩ => by
    unfold SV.ren
    split
    · rename_i j hj; exact ⟨b, by simp [renC, posOf_get hj, h1], h2⟩
    · trivial
  | .sl i off n c, u, ⟨b, h1, h2⟩ => by
    unfold SV.ren
    split
    · rename_i j hj; exact ⟨b, by simp [renC, posOf_get hj, h1], h2⟩
    · trivial
  | .mp i, u, ⟨b, h1, h2⟩ => by
    unfold SV.ren
    split
    · rename_i j hj; exact ⟨b, by simp [renC, posOf_get hj, h1], h2⟩
    · trivial
  | .agg l, u, ⟨us, h1, h2⟩ => ⟨us, h1, ren_RL l us h2⟩
  | .tup l, u, ⟨us, h1, h2⟩ => ⟨us, h1, ren_RL l us h2⟩
  | .clo fn l c, u, ⟨us, vs, h1, h2, h3⟩ => ⟨us, vs, h1, ren_RL l us h2, ren_RL c vs h3⟩
  | .dsl t l, u, h => h
  | .dpt t y off, u, h => h
  | .vec i, u, ⟨h1, h2⟩ => by
    unfold SV.ren
    split
    · rename_i j hj; exact ⟨by simp [renC, posOf_get hj, h1], h2⟩
    · trivial
  | .wpt i s k o, u, ⟨r, n, c, h1, h2⟩ => by
    unfold SV.ren
    split
    · rename_i j hj; exact ⟨r, n, c, by simp [renC, posOf_get hj, h1], h2⟩
    · trivial
  | .emp, u, h => h
theorem ren_RL {ns : List Nat} : ∀ (l : List SV) (us : List Value), SV.RL ρ l us → SV.RL (renC ρ ns) (SV.renL (posOf ns) l) us
  | [], _, h => h
  | x :: l, _, ⟨u, us', h1, h2, h3⟩ => ⟨u, us', h1, ren_R x u h2, ren_RL l us' h3⟩
end
theorem ren_O {ns : List Nat} {b : Blk} {o : Obj} (h : b.O ρ o) : (b.ren (posOf ns)).O (renC ρ ns) o := by
  cases b with
  | dead => trivial
  | vec t l b => trivial
  | pm kt vt l => exact h
  | cells l t wr => obtain ⟨us, h1, h2⟩ := h; exact ⟨us, h1, ren_RL l us h2⟩
  | mp l =>
    obtain ⟨es, c, h1, h2⟩ := h
    refine ⟨es, c, h1, ?_⟩
    have gen : ∀ (l : List (Value × SV)) (es : List MapEntry), KL ρ l es → KL (renC ρ ns) (l.map fun kv => (kv.1, kv.2.ren (posOf ns))) es := by
      intro l
      induction l with
      | nil => intro es h; exact h
      | cons y l ih => rintro es ⟨e, es', h1, h2, h3, h4⟩; exact ⟨e, es', h1, h2, ren_R _ _ h3, ih es' h4⟩
    exact gen l es h2
theorem ren_vec {π : Nat → Option Nat} {b : Blk} {t : Ty} {l : List t.den} {bw : Bool} (h : b.ren π = .vec t l bw) : b = .vec t l bw := by
  cases b with
  | vec t' l' => exact h
  | _ => cases h
theorem ren_cells {π : Nat → Option Nat} {b : Blk} {l : List SV} {t : TypeId} {g : Bool} (h : b.ren π = .cells l t g) : ∃ l', b = .cells l' t g := by
  cases b with
  | cells l' t' g' => cases h; exact ⟨_, rfl⟩
  | _ => cases h
theorem ren_live {π : Nat → Option Nat} {b : Blk} : (b.ren π).live = b.live := by cases b <;> rfl
theorem Mem.ren {m : List Blk} {n0 : Nat} {ns : List Nat} (hlo : E.low n0) (hns : renB n0 ns = true) (h : Mem E ρ m w) : Mem E (renC ρ ns) (ns.map fun i => ((nth m i).getD .dead).ren (posOf ns)) w := by
  unfold renB at hns
  rw [Bool.and_eq_true] at hns
  have hfix : ∀ i, i < n0 → ns[i]? = some i := fun i hi => by
    have := List.all_eq_true.1 hns.1 i (List.mem_range.2 hi)
    rw [nth_eq] at this
    simpa using this
  have hnd : ns.Nodup := of_decide_eq_true hns.2
  have uni : ∀ i j k : Nat, ns[i]? = some k → ns[j]? = some k → i = j := fun i j k h1 h2 => by
    obtain ⟨hi, e1⟩ := List.getElem?_eq_some_iff.1 h1
    obtain ⟨hj, e2⟩ := List.getElem?_eq_some_iff.1 h2
    exact (List.getElem_inj hnd).1 (e1.trans e2.symm)
  have bget : ∀ j r : Nat, (renC ρ ns).b j = some r → ∃ i, ns[j]? = some i ∧ ρ.b i = some r := fun j r hj => by
    have hj' : (ns[j]?).bind ρ.b = some r := hj
    rw [Option.bind_eq_some_iff] at hj'
    exact hj'
  have vget : ∀ (j : Nat) (u : Value), (renC ρ ns).v j = some u → ∃ i, ns[j]? = some i ∧ ρ.v i = some u := fun j u hj => by
    have hj' : (ns[j]?).bind ρ.v = some u := hj
    rw [Option.bind_eq_some_iff] at hj'
    exact hj'
  have mget : ∀ (j i : Nat) (b : Blk), ns[j]? = some i → (ns.map fun i => ((nth m i).getD .dead).ren (posOf ns))[j]? = some b → b = .dead ∨ ∃ b0, m[i]? = some b0 ∧ b = b0.ren (posOf ns) := fun j i b h1 h2 => by
    rw [List.getElem?_map, h1] at h2
    simp only [Option.map_some, Option.some.injEq] at h2
    subst h2
    rw [nth_eq]
    cases m[i]? with
    | none => exact .inl rfl
    | some b0 => exact .inr ⟨b0, rfl, rfl⟩
  have vmget : ∀ (j : Nat) (t : Ty) (l : List t.den) (bw : Bool) (u : Value), (ns.map fun i => ((nth m i).getD .dead).ren (posOf ns))[j]? = some (.vec t l bw) → (renC ρ ns).v j = some u → ∃ i, ns[j]? = some i ∧ ρ.v i = some u ∧ m[i]? = some (.vec t l bw) := fun j t l bw u h1 h2 => by
    obtain ⟨i, h3, h4⟩ := vget j u h2
    rcases mget j i _ h3 h1 with h5 | ⟨b0, h5, h6⟩
    · cases h5
    · rw [ren_vec h6.symm] at h5
      exact ⟨i, h3, h4, h5⟩
  refine ⟨fun j r hj => ?_, fun j b r h1 h2 o ho => ?_, fun j r hj => ?_, fun i j r h1 h2 => ?_, fun j b r h1 h2 h3 => ?_, h.kept, ⟨fun i r hi => ?_, fun i u hi => ?_, h.pre.z⟩, fun j r hj => ?_, fun j u hj => ?_, fun j t l bw u h1 h2 => ?_, fun i j t l bw t' l' bw' u u' r h1 h2 h3 h4 h5 h6 => ?_, h.zok, fun j b r o h1 h2 h3 => ?_, fun j l t r o x h1 h2 h3 => ?_, h.znew⟩
  · obtain ⟨i, h3, _⟩ := bget j r hj
    have := (List.getElem?_eq_some_iff.1 h3).1
    simpa using this
  · obtain ⟨i, h3, h4⟩ := bget j r h2
    rcases mget j i b h3 h1 with rfl | ⟨b0, h5, rfl⟩
    · trivial
    · exact ren_O (h.ok i b0 r h5 h4 o ho)
  · obtain ⟨i, _, h4⟩ := bget j r hj
    exact h.lt i r h4
  · obtain ⟨i1, h3, h4⟩ := bget i r h1
    obtain ⟨i2, h5, h6⟩ := bget j r h2
    have := h.inj i1 i2 r h4 h6
    subst this
    exact uni i j i1 h3 h5
  · obtain ⟨i, h4, h5⟩ := bget j r h2
    rcases mget j i b h4 h1 with rfl | ⟨b0, h6, rfl⟩
    · cases h3
    · exact h.own i b0 r h6 h5 (by rw [← ren_live (π := posOf ns)]; exact h3)
  · show (ns[i]?).bind ρ.b = some r
    rw [hfix i (hlo.b i r hi)]
    exact h.pre.b i r hi
  · show (ns[i]?).bind ρ.v = some u
    rw [hfix i (hlo.v i u hi)]
    exact h.pre.v i u hi
  · obtain ⟨i, h3, h4⟩ := bget j r hj
    rcases h.new i r h4 with h5 | h5
    · have := hfix i (hlo.b i r h5)
      rw [uni j i i h3 this]
      exact .inl h5
    · exact .inr h5
  · obtain ⟨i, h3, _⟩ := vget j u hj
    have := (List.getElem?_eq_some_iff.1 h3).1
    simpa using this
  · obtain ⟨i, h3, h4, h5⟩ := vmget j t l bw u h1 h2
    obtain ⟨g1, g2⟩ := h.vok i t l bw u h5 h4
    refine ⟨g1, g2.imp id fun ⟨r, c, us, ty, k1, k2, k3, k4, k5, k6⟩ => ⟨r, c, us, ty, k1, k2, k3, k4, fun q b h6 h7 => ?_, k6⟩⟩
    obtain ⟨i2, h8, h9⟩ := bget q r h7
    rcases mget q i2 b h8 h6 with rfl | ⟨b0, h10, rfl⟩
    · rfl
    · rw [k5 i2 b0 h10 h9]; rfl
  · obtain ⟨i1, a1, a2, a3⟩ := vmget i t l bw u h1 h3
    obtain ⟨i2, b1, b2, b3⟩ := vmget j t' l' bw' u' h2 h4
    have := h.vinj i1 i2 t l bw t' l' bw' u u' r a3 b3 a2 b2 h5 h6
    subst this
    exact uni i j i1 a1 b1
  · obtain ⟨i, h4, h5⟩ := bget j r h2
    rcases mget j i b h4 h1 with rfl | ⟨b0, h6, rfl⟩
    · cases h3
    · exact h.zown i b0 r o h6 h5 (by rw [← ren_live (π := posOf ns)]; exact h3)
  · obtain ⟨i, h4, h5⟩ := bget j r h2
    rcases mget j i _ h4 h1 with h6 | ⟨b0, h6, h7⟩
    · cases h6
    · obtain ⟨l0, rfl⟩ := ren_cells h7.symm
      exact h.zfro i l0 t r o x h6 h5 h3

/-- a state az good az another, but for numbers and for what is known -/
def Ren (n0 : Nat) (X S : St) : Prop := ∀ (E : Env) ρ a w, E.low n0 → Rep E ρ X a w → ∃ ρ', (∀ r o u, ρ.z r o = some u → ρ'.z r o = some u) ∧ Rep E ρ' S a w
theorem Ren.refl (n0 : Nat) (X : St) : Ren n0 X X := fun E ρ a w _ hr => ⟨ρ, fun _ _ _ h => h, hr⟩
theorem Ren.trans {n0 : Nat} {X Y Z : St} (h : Ren n0 X Y) (k : Ren n0 Y Z) : Ren n0 X Z := fun E ρ a w hlo hr => by
  obtain ⟨ρ1, h1, h2⟩ := h E ρ a w hlo hr
  obtain ⟨ρ2, h3, h4⟩ := k E ρ1 a w hlo h2
  exact ⟨ρ2, fun r o u h => h3 r o u (h1 r o u h), h4⟩
theorem ren_ren {n0 : Nat} {ns : List Nat} (hns : renB n0 ns = true) (hd : s.d = []) : Ren n0 s (s.ren ns) := fun E ρ a w hlo hr => by
  obtain ⟨us, h1, h2⟩ := hr.t
  have h3 := hr.d
  rw [hd] at h3
  exact ⟨renC ρ ns, fun _ _ _ h => h, ⟨us, h1, ren_RL _ _ h2⟩, by show DL _ s.d _; rw [hd]; exact h3, hr.m.ren hlo hns⟩
/-- temporaries of which nothing is known any more -/
def anyL : List Nat → Nat → List SV → List SV
  | [], _, t => t
  | _ :: _, _, [] => []
  | j :: ts, i, x :: t => bif i == j then .any :: anyL ts (i + 1) t else x :: anyL (j :: ts) (i + 1) t
theorem anyL_length : ∀ (ts : List Nat) (i : Nat) (t : List SV), (anyL ts i t).length = t.length
  | [], _, t => by unfold anyL; rfl
  | _ :: _, _, [] => by unfold anyL; rfl
  | j :: ts, i, x :: t => by
    unfold anyL
    cases i == j with
    | true => show (anyL ts (i + 1) t).length + 1 = t.length + 1; rw [anyL_length ts]
    | false => show (anyL (j :: ts) (i + 1) t).length + 1 = t.length + 1; rw [anyL_length (j :: ts)]
theorem anyL_get : ∀ (ts : List Nat) (i : Nat) (t : List SV) (k : Nat), (anyL ts i t)[k]? = t[k]? ∨ (anyL ts i t)[k]? = some .any
  | [], _, t, k => by unfold anyL; exact .inl rfl
  | _ :: _, _, [], k => by unfold anyL; exact .inl rfl
  | j :: ts, i, x :: t, k => by
    unfold anyL
    cases i == j with
    | true =>
      cases k with
      | zero => exact .inr rfl
      | succ k => simpa using anyL_get ts (i + 1) t k
    | false =>
      cases k with
      | zero => exact .inl rfl
      | succ k => simpa using anyL_get (j :: ts) (i + 1) t k
def St.anyT (ts : List Nat) (s : St) : St := { s with t := anyL ts 0 s.t }
theorem anyT_ren {n0 : Nat} (ts : List Nat) : Ren n0 s (s.anyT ts) := fun E ρ a w _ hr => by
  refine ⟨ρ, fun _ _ _ h => h, Less.rep (s := s) (s' := s.anyT ts) ⟨?_, fun x => ?_, Nat.le_refl _, fun x => .inl rfl, rfl⟩ hr⟩
  · exact anyL_length ts 0 s.t
  · exact anyL_get ts 0 s.t x
theorem frz_ren {n0 : Nat} (l : List Nat) : Ren n0 s { s with m := frz s.m l } := fun E ρ a w _ hr => by
  obtain ⟨us, h1, h2⟩ := hr.t
  obtain ⟨ρ2, le2, hm2⟩ := hr.m.frz l
  exact ⟨ρ2, le2.z, ⟨us, h1, h2.pre le2⟩, hr.d.pre le2, hm2⟩
def Ex.deep : Ex → Bool
  | .panic v => v.deep
  | _ => true
/-- LOOPS -/
theorem loop_rule {c : Code} {n0 : Nat} {α : Type} (S : α → St) (fin : α → Ex × St) (rk : α → Nat)
    (hstep : ∀ x, (∃ X y, Runs P rd n0 c (S x) .normal X ∧ Ren n0 X (S y) ∧ rk y < rk x ∧ fin y = fin x) ∨
      (∃ Y, (fin x).1 ≠ .normal ∧ (fin x).1.deep = true ∧ Runs P rd n0 c (S x) (fin x).1 Y ∧ Ren n0 Y (fin x).2)) (x : α) : Runs P rd n0 (.loop c) (S x) (fin x).1 (fin x).2 := by
  have key : ∀ (n : Nat) (x : α), rk x < n → ∀ E, E.rd = rd → E.low n0 → ∀ ρ a w Q, Rep E ρ (S x) a w → ExPost E ρ (fin x).1 (fin x).2 Q → Code.rounds P c Q n a w := by
    intro n
    induction n with
    | zero => intro x h; omega
    | succ n ih =>
      intro x hx E hE hlo ρ a w Q hr hpost
      rcases hstep x with ⟨X, y, h1, h2, h3, h4⟩ | ⟨Y, h1, h2, h3, h4⟩
      · refine h1 E hE hlo ρ a w _ hr fun ρ' a' w' _ hr' => ?_
        obtain ⟨ρ2, _, hr2⟩ := h2 E ρ' a' w' hlo hr'
        rw [← h4] at hpost
        exact ih y (by omega) E hE hlo ρ2 a' w' Q hr2 (hpost.le ⟨⟩)
      · have fin' : ExPost E ρ (fin x).1 Y Q := fun ρ' a' w' _ hr' => by
          obtain ⟨ρ2, hz, hr2⟩ := h4 E ρ' a' w' hlo hr'
          have := hpost ρ2 a' w' ⟨⟩ hr2
          revert this
          cases he : (fin x).1 with
          | normal => exact id
          | exit i => exact id
          | ret => exact id
          | panic v =>
            intro h5 u hu
            rw [he] at h2
            exact h5 u (deep_R hz v u h2 hu)
        revert h1 h3 fin'
        cases he : (fin x).1 with
        | normal => intro h1; exact absurd rfl h1
        | exit i => intro _ h3 fin'; exact h3 E hE hlo ρ a w _ hr fin'
        | ret => intro _ h3 fin'; exact h3 E hE hlo ρ a w _ hr fin'
        | panic v => intro _ h3 fin'; exact h3 E hE hlo ρ a w _ hr fin'
  intro E hE hlo ρ a w Q hr hpost
  exact wp_loop_rounds (rk x + 1) (key (rk x + 1) x (Nat.lt_succ_self _) E hE hlo ρ a w Q hr hpost)

theorem Runs.before {c : Code} {n0 : Nat} {s2 : St} {e : Ex} (h : Ren n0 s s2) (k : Runs P rd n0 c s2 e s') : Runs P rd n0 c s e s' := fun E hE hlo ρ a w Q hr hpost => by
  obtain ⟨ρ2, _, hr2⟩ := h E ρ a w hlo hr
  exact k E hE hlo ρ2 a w Q hr2 (hpost.le ⟨⟩)
/-- two states are the same -/
noncomputable def eqS (s s0 : St) : Bool := @decide (s = s0) (Classical.propDecidable _)
theorem eqS_rfl (s : St) : eqS s s = true := @decide_eq_true _ (Classical.propDecidable _) rfl
theorem eqS_cond {α : Type} {s s0 : St} (h : s = s0) (x y : α) : (bif eqS s s0 then x else y) = x := by subst h; rw [eqS_rfl]; rfl
/-- which number: said outright, or that of a temporary, or of a cell; 'f': said outright, and nobody writes it any more; 'v': that of a temporary, a nil there being a list of ours from now on -/
inductive Root where
  | n (i : Nat)
  | t (i : Nat)
  | c (i off : Nat)
  | f (i : Nat)
  | v (i : Nat) (t : Ty)
  | vc (i off : Nat) (t : Ty)
def SV.num : SV → Option Nat
  | .ptr i _ => some i
  | .sl i _ _ _ => some i
  | .mp i => some i
  | .vec i => some i
  | _ => none
def Root.num (s : St) : Root → Option Nat
  | .n i => some i
  | .f i => some i
  | .v i _ => (nth s.t i).bind SV.num
  | .t i => (nth s.t i).bind SV.num
  | .vc i off _ => match nth s.m i with
    | some (.cells l _ _) => (nth l off).bind SV.num
    | _ => none
  | .c i off => match nth s.m i with
    | some (.cells l _ _) => (nth l off).bind SV.num
    | _ => none
/-- a block of which nothing is said -/
theorem Mem.unseen {m : List Blk} (h : Mem E ρ m w) {i : Nat} {b1 : Blk} (hb : ρ.b i = none) (hflat : b1.flat = true) : Mem E ρ (m.set i b1) w := by
  have get : ∀ (j : Nat) (b : Blk) (r : Nat), (m.set i b1)[j]? = some b → ρ.b j = some r → m[j]? = some b := fun j b r h1 h2 => by
    rw [List.getElem?_set_ne (fun e => by rw [e, h2] at hb; cases hb)] at h1
    exact h1
  have vget : ∀ (j : Nat) (t : Ty) (l : List t.den) (b : Bool), (m.set i b1)[j]? = some (.vec t l b) → m[j]? = some (.vec t l b) := fun j t l b h1 => by
    rw [List.getElem?_set] at h1
    split at h1
    · split at h1
      · cases h1; cases hflat
      · cases h1
    · exact h1
  refine ⟨fun j r hj => by simpa using h.dom j r hj, fun j b r h1 h2 o ho => h.ok j b r (get j b r h1 h2) h2 o ho, h.lt, h.inj, fun j b r h1 h2 h3 => h.own j b r (get j b r h1 h2) h2 h3, h.kept, h.pre, h.new, fun j u hj => by simpa using h.vdom j u hj, fun j t l b u h1 h2 => ?_,
    fun j k t l b t' l' b' u u' r h1 h2 h3 h4 h5 h6 => h.vinj j k t l b t' l' b' u u' r (vget j t l b h1) (vget k t' l' b' h2) h3 h4 h5 h6, h.zok, fun j b r o h1 h2 h3 => h.zown j b r o (get j b r h1 h2) h2 h3, fun j l t r o x h1 h2 h3 => h.zfro j l t r o x (get j _ r h1 h2) h2 h3, h.znew⟩
  obtain ⟨g1, g2⟩ := h.vok j t l b u (vget j t l b h1) h2
  exact ⟨g1, g2.imp id fun ⟨r, c, us, ty, k1, k2, k3, k4, k5, k6⟩ => ⟨r, c, us, ty, k1, k2, k3, k4, fun q b h3 h4 => k5 q b (get q b r h3 h4) h4, k6⟩⟩
def St.vecT (s : St) : Root → St
  | .v i t => match nth s.t i with
    | some (.val (.slice none n c)) => if n = 0 ∧ c = 0 then { s with t := s.t.set i (.vec s.m.length), m := s.m ++ [.vec t []] } else s
    | some (.sl j 0 0 c) => match headS t s.m (.sl j 0 0 c) with
      | some (l, m') => { s with t := s.t.set i (.vec m'.length), m := m' ++ [.vec t l true] }
      | none => s
    | _ => s
  | .vc i off t => match nth s.m i with
    | some (.cells l ty true) => match nth l off with
      | some (.val (.slice none n c)) => if n = 0 ∧ c = 0 then { s with m := (s.m ++ [Blk.vec t []]).set i (Blk.cells (l.set off (SV.vec s.m.length)) ty true) } else s
      | _ => s
    | _ => s
  | _ => s
/-- a list at hand is one of ours from now on -/
theorem Mem.headVec {m : List Blk} {t : Ty} {l : List t.den} {bw : Bool} {u : Value} (hM : Mem E ρ m w) (h : HeadOk E ρ m w t l bw u) : ∃ ρ', ρ'.b = ρ.b ∧ Le ρ ρ' ∧ (SV.vec m.length).R ρ' u ∧ Mem E ρ' (m ++ [.vec t l bw]) w := by
  rcases h with ⟨rfl, rfl, rfl⟩ | ⟨r, c, us, ty, rfl, k2, k3, k4, k5, k6, k7, k8, cs, k9, k10⟩
  · exact hM.vecNil t
  · refine hM.vecStep (L := l) (w' := w) (g := r) (us := us) (ty := ty) bw rfl rfl rfl (Nat.le_refl _) (fun _ _ _ => rfl) k2 k3 k4 (.inr ⟨k5, k6, k7, ⟨fun hb o x hx => ⟨k8.1 hb o x hx, ?_⟩, k8.2⟩⟩) k9 k10
    have := hM.zok _ _ _ hx
    simpa [World.cell?, k2] using this
theorem set_same {α : Type} {us : List α} {i : Nat} {u : α} (hu : us[i]? = some u) : us.set i u = us := by
  apply List.ext_getElem?
  intro j
  rw [List.getElem?_set]
  split
  · rename_i hj
    subst hj
    split
    · exact hu.symm
    · rename_i hlt
      rw [List.getElem?_eq_none (by omega)]
  · rfl
theorem vecT_ren {n0 : Nat} (r : Root) : Ren n0 s (s.vecT r) := fun E ρ a w hlo hr => by
  cases r with
  | v i t =>
    simp only [St.vecT]
    split
    · rename_i n c hi
      split
      · rename_i e
        obtain ⟨rfl, rfl⟩ := e
        obtain ⟨us, h1, h2⟩ := hr.t
        obtain ⟨ρ2, _, le2, hv, hm2⟩ := hr.m.vecNil t
        refine ⟨ρ2, le2.z, ⟨us, h1, ?_⟩, hr.d.pre le2, hm2⟩
        rw [nth_eq] at hi
        obtain ⟨u, hu, hx⟩ := h2.get hi
        have hx' : u = .slice none 0 0 := hx
        subst hx'
        have h3 := (h2.pre le2).set i hv
        rw [set_same hu] at h3
        exact h3
      · exact Ren.refl _ _ E ρ a w hlo hr
    · rename_i j c hi
      split
      · rename_i l m' hh
        obtain ⟨us, h1, h2⟩ := hr.t
        rw [nth_eq] at hi
        obtain ⟨u, hu, hx⟩ := h2.get hi
        obtain ⟨hm1, hH⟩ := headS_sound hr.m hh hx
        have hw : headW s.m (.sl j 0 0 c) = true := rfl
        rw [hw] at hH
        obtain ⟨ρ2, _, le2, hv, hm2⟩ := hm1.headVec hH
        refine ⟨ρ2, le2.z, ⟨us, h1, ?_⟩, hr.d.pre le2, hm2⟩
        have h3 := (h2.pre le2).set i hv
        rw [set_same hu] at h3
        exact h3
      · exact Ren.refl _ _ E ρ a w hlo hr
    · exact Ren.refl _ _ E ρ a w hlo hr
  | vc i off t =>
    simp only [St.vecT]
    split
    · rename_i l ty hm
      split
      · rename_i n c hi
        split
        · rename_i e
          obtain ⟨rfl, rfl⟩ := e
          rw [nth_eq] at hm hi
          obtain ⟨us, h1, h2⟩ := hr.t
          obtain ⟨ρ2, eb, le2, hv, hm2⟩ := hr.m.vecNil t
          have hil : i < s.m.length := (List.getElem?_eq_some_iff.1 hm).1
          have hm' : (s.m ++ [Blk.vec t []])[i]? = some (.cells l ty true) := by rw [List.getElem?_append_left hil]; exact hm
          cases hb : ρ2.b i with
          | none =>
            refine ⟨ρ2, le2.z, ⟨us, h1, h2.pre le2⟩, hr.d.pre le2, ?_⟩
            exact hm2.unseen hb rfl
          | some r =>
            obtain ⟨o, ho, vs, rfl, hl⟩ := hm2.get hm' hb
            obtain ⟨u, hu, hx⟩ := hl.get hi
            have hx' : u = .slice none 0 0 := hx
            subst hx'
            have h3 := hl.set off hv
            rw [set_same hu] at h3
            refine ⟨ρ2, le2.z, ⟨us, h1, h2.pre le2⟩, hr.d.pre le2, ?_⟩
            have h4 := hm2.write (b1 := .cells (l.set off (.vec s.m.length)) ty true) (o1 := .cells vs.toArray ty) hm' rfl hb ⟨vs, rfl, h3⟩ rfl
            have h5 : w.heap.setIfInBounds r (.cells vs.toArray ty) = w.heap := by
              apply Array.ext_getElem?
              intro q
              rw [Array.getElem?_setIfInBounds]
              split
              · rename_i hq
                subst hq
                split
                · exact ho.symm
                · rename_i hlt; rw [Array.getElem?_eq_none (by omega)]
              · rfl
            rw [h5] at h4
            exact h4
        · exact Ren.refl _ _ E ρ a w hlo hr
      · exact Ren.refl _ _ E ρ a w hlo hr
    · exact Ren.refl _ _ E ρ a w hlo hr
  | _ => exact Ren.refl _ _ E ρ a w hlo hr
theorem vecs_ren {n0 : Nat} : ∀ (l : List Root) (s : St), Ren n0 s (l.foldl St.vecT s)
  | [], s => Ren.refl _ _
  | r :: l, s => (vecT_ren r).trans (vecs_ren l (s.vecT r))
def Root.frz : Root → List Nat
  | .f i => [i]
  | _ => []
def St.nrm1 (n0 : Nat) (rs : List Root) (ts : List Nat) (s : St) : Option St :=
  match allSome (rs.map (Root.num s)), s.d with
  | some ns, [] => if renB n0 ns then some ((({ s with m := SX.frz s.m (rs.flatMap Root.frz) } : St).ren ns).anyT ts) else none
  | _, _ => none
theorem nrm1_ren {n0 : Nat} {rs : List Root} {ts : List Nat} (h : s.nrm1 n0 rs ts = some s') : Ren n0 s s' := by
  unfold St.nrm1 at h
  split at h
  · rename_i ns h1 hd
    split at h
    · rename_i hb
      cases h
      exact (frz_ren _).trans ((ren_ren (s := { s with m := SX.frz s.m (rs.flatMap Root.frz) }) hb hd).trans (anyT_ren ts))
    · cases h
  · cases h
def St.nrm (n0 : Nat) (rs : List Root) (ts : List Nat) (s : St) : Option St := (rs.foldl St.vecT s).f fun s => s.nrm1 n0 rs ts
theorem nrm_ren {n0 : Nat} {rs : List Root} {ts : List Nat} (h : s.nrm n0 rs ts = some s') : Ren n0 s s' := by
  unfold St.nrm at h
  rw [St.f_eq] at h
  exact (vecs_ren rs s).trans (nrm1_ren h)
/-- a table of one loop: in a frame that came in with so many blocks, from this state on, but for what is not kept -/
noncomputable def oneL (n0 : Nat) (f : FuncId) (id : Nat) (rs : List Root) (ts : List Nat) (s0 : St) (r : R3 (Ex × St)) (g : Loops) : Loops := fun f' id' => if f' = f ∧ id' = id then some fun n s => .need (decide (n = n0)) (match s.nrm n0 rs ts with
  | some s' => s'.f fun s' => .need (eqS s' s0) r
  | none => .no) else g f' id'
theorem oneL_ok {n0 : Nat} {f : FuncId} {id : Nat} {rs : List Root} {ts : List Nat} {s0 : St} {r : R3 (Ex × St)} {g : Loops} (hu : (loopsAt P f id).length = 1) (hg : LoopsOk P rd g)
    (h : InF P f (loopAt P f id) → ∀ e s1, r.res = some (e, s1) → Runs P rd n0 (.loop (loopAt P f id)) s0 e s1) : LoopsOk P rd (oneL n0 f id rs ts s0 r g) := by
  intro f' id' hh hf c hin hfr n s e s1 hres
  unfold oneL at hf
  split at hf
  · rename_i hc
    obtain ⟨rfl, rfl⟩ := hc
    cases hf
    have hcl := loopAt_eq hu hin hfr
    subst hcl
    obtain ⟨h1, h2⟩ := R3.need_some hres
    have h1 := of_decide_eq_true h1
    subst h1
    split at h2
    · rename_i s' hs
      rw [St.f_eq] at h2
      obtain ⟨h3, h4⟩ := R3.need_some h2
      have h3 := @of_decide_eq_true _ (Classical.propDecidable _) h3
      subst h3
      exact Runs.before (nrm_ren hs) (h (loopAt_in hin) e s1 h4)
    · cases h2
  · exact hg f' id' hh hf c hin hfr n s e s1 hres
/-- a round of a loop: what it comes to, each end made plain in its way -/
def sxB (P : Program) (lp : Loops) (g : PCon) (n : Nat) (f : Frm) (c : Code) (s : St) (nm : Ex → Option (List Root × List Nat)) : Option (Ex × St) :=
  (sxBoth P Rd.no lp g n).1 f c s fun e s' => match nm e with
    | some (rs, ts) => match s'.nrm f.2 rs ts with
      | some s'' => s''.f fun s'' => some (e, s'')
      | none => none
    | none => s'.f fun s' => some (e, s')
theorem sxB_sound (hP : POk P) {g : PCon} (hg : PConOk P Rd.no g) {lp : Loops} (hlp : LoopsOk P Rd.no lp) {n : Nat} {f : Frm} {c : Code} {s s' : St} {nm : Ex → Option (List Root × List Nat)} {e : Ex} (hin : InF P f.1 c)
    (h : sxB P lp g n f c s nm = some (e, s')) : ∃ X, Runs P Rd.no f.2 c s e X ∧ Ren f.2 X s' := by
  obtain ⟨h1, _⟩ := both_sound (β := Ex × St) hP hg hlp n
  obtain ⟨e1, X, h2, h3⟩ := h1 f c s _ _ hin h
  simp only at h2
  split at h2
  · split at h2
    · rename_i s2 hs
      rw [St.f_eq] at h2
      cases h2
      exact ⟨X, h3, nrm_ren hs⟩
    · cases h2
  · rw [St.f_eq] at h2
    cases h2
    exact ⟨_, h3, Ren.refl _ _⟩
/-- a function's body, and the state in which it begins -/
def bodyOf (P : Program) (f : FuncId) : Code := ((P.funcs[f]?).bind (·.body)).getD .skip
def startS (P : Program) (f : FuncId) (args : List SV) (m : List Blk) : St := ⟨args ++ List.replicate (((P.funcs[f]?).map (·.ntmps)).getD 0 - args.length) (.val undef), m, []⟩
/-- to see the state in which a loop begins -/
def seeL (f : FuncId) (id : Nat) (g : Loops) : Loops := fun f' id' => if f' = f ∧ id' = id then some fun _ s => .ok (.exit 999, s) else g f' id'
end
end Go.SX

/-
  Arguments of plain types: opened.
-/
namespace Go.SX
set_option linter.unusedVariables false
set_option linter.unusedSimpArgs false
open Go.RowKit Go.WideShapes

/-- the plain type of a type whose parts lie one behind the other -/
def layT (P : Program) : Nat → TypeId → Option Ty
  | 0, _ => none
  | n + 1, t => match P.underlying t with
    | some (.int k) => some (.int k)
    | some .string => some .str
    | some .bool => some .bool
    | some (.slice e) => match layT P n e with
      | some a => if P.cellsOf e = a.size ∧ 0 < a.size then some (.sl a) else none
      | none => none
    | some (.struct fs) => match (fs.toList.foldr (fun f (r : Nat → Option Ty) off => match layT P n f.type with
        | some a => if f.offset = off ∧ P.cellsOf f.type = a.size then (r (off + a.size)).map (.pair a) else none
        | none => none) (fun _ => some .unit)) 0 with
      | some a => if P.cellsOf t = a.size then some a else none
      | none => none
    | _ => none
/-- az memory holds it -/
def Wf : (t : Ty) → t.den → Prop
  | .int k, x => (Lit.int k x).wf = true
  | .str, x => ByteArray.size x ≤ maxLen
  | .bool, _ => True
  | .unit, _ => True
  | .pair a b, x => Wf a x.1 ∧ Wf b x.2
  | .sl t, l => List.length l ≤ maxLen ∧ ∀ (i : Nat) (x : t.den), lget l i = some x → Wf t x
/-- all cells of a world -/
def zAll (w : World) : Nat → Nat → Option Value := fun r o => w.cell? ⟨r, o, none⟩
theorem zAll_ok (w : World) : ZOk (zAll w) w := fun _ _ _ h => h

section
variable {P : Program} {H : Type} {enc : TypeId × Value → H} {w : World} {base : Nat} {sp : Nat → Bool} {held : Bool}
theorem cells_get {a : Addr} {n : Nat} {cs : List Value} (h : w.cells? base a n = some cs) : cs.length = n ∧ ∀ (j : Nat) (y : Value), cs[j]? = some y → w.cell? (a.add j) = some y := by
  unfold World.cells? at h
  split at h
  · have hl := mapM_some_length h
    refine ⟨by simpa using hl, fun j y hy => ?_⟩
    have hj := (List.getElem?_eq_some_iff.1 hy).1
    have hlen : j < n := by simpa [hl] using hj
    have := mapM_some_get h j j (by simp [hlen])
    rw [hy] at this
    exact this
  · cases h
theorem cell_spot {a : Addr} {v : Value} (h : w.cell? a = some v) : a.spot = none := by
  unfold World.cell? at h
  split at h
  · split at h
    · cases h
    · rename_i h1; cases hs : a.spot <;> simp_all
  · cases h
/-- a list of things, one at a time -/
theorem list_of {α : Type} (Q : Nat → α → Prop) : ∀ (n : Nat), (∀ i, i < n → ∃ x, Q i x) → ∃ l : List α, l.length = n ∧ ∀ (i : Nat) (x : α), l[i]? = some x → Q i x
  | 0, _ => ⟨[], rfl, fun i x h => by simp at h⟩
  | n + 1, h => by
    obtain ⟨l, h1, h2⟩ := list_of Q n fun i hi => h i (by omega)
    obtain ⟨x, hx⟩ := h n (by omega)
    refine ⟨l ++ [x], by simp [h1], fun i y hy => ?_⟩
    rcases Nat.lt_or_ge i n with hi | hi
    · rw [List.getElem?_append_left (by omega)] at hy
      exact h2 i y hy
    · rw [List.getElem?_append_right (by omega), h1] at hy
      have : i - n = 0 := by
        have := (List.getElem?_eq_some_iff.1 hy).1
        simp at this
        omega
      rw [this] at hy
      simp at hy
      subst hy
      rw [show i = n by omega]
      exact hx
theorem open_ty (hsp : ∀ b, sp b = true) : ∀ (n fuel : Nat) (t : TypeId) (ty : Ty) (cs : List Value) (x : DataW H × List MemPlace), layT P n t = some ty → DataW.trod enc P w base sp held fuel t cs = some x → ∃ y : ty.den, HC (zAll w) ty y cs ∧ Wf ty y
  | 0, _, _, _, _, _, h, _ => by simp [layT] at h
  | n + 1, fuel, t, ty, cs, x, h, hx => by
    have ih := open_ty hsp n
    unfold layT at h
    split at h
    · rename_i k hu
      cases h
      obtain ⟨m, h1, h2, h3⟩ := DataW.trod_int hu hx
      subst h1
      exact ⟨m, rfl, h3⟩
    · rename_i hu
      cases h
      obtain ⟨m, h1, h2, h3⟩ := DataW.trod_string hu hx
      subst h1
      exact ⟨m, rfl, h3⟩
    · rename_i hu
      cases h
      obtain ⟨m, h1, h2⟩ := DataW.trod_bool hu hx
      subst h1
      exact ⟨m, rfl, trivial⟩
    · rename_i e hu
      split at h
      · rename_i a ha
        split at h
        · rename_i hsz
          obtain ⟨hsz, hpos⟩ := hsz
          cases h
          rcases DataW.trod_slice hu hx with ⟨rfl, _⟩ | ⟨ad, len, cap, elems, rest, m, rfl, rfl, _, hb, hlc, hcm, hel, hget, hrest, _⟩
          · exact ⟨([] : List a.den), ⟨none, 0, rfl, Nat.le_refl _, .inr ⟨rfl, rfl⟩⟩, Nat.zero_le _, fun i x hi => by simp [lget] at hi⟩
          · have elem : ∀ i, i < len → ∃ y : a.den, (∃ ds, (∀ (j : Nat) (v : Value), ds[j]? = some v → w.cell? ((ad.add (i * a.size)).add j) = some v) ∧ ds.length = a.size ∧ HC (zAll w) a y ds) ∧ Wf a y := fun i hi => by
              have h1 := hget i hi
              have h2 : elems[i]? = some elems[i] := List.getElem?_eq_getElem (by omega)
              rw [h2, Option.bind_eq_some_iff] at h1
              obtain ⟨ds, h3, h4⟩ := h1
              rw [hsz] at h3
              obtain ⟨h5, h6⟩ := cells_get h3
              obtain ⟨y, h7, h8⟩ := ih m e a ds _ ha h4
              exact ⟨y, ⟨ds, h6, h5, h7⟩, h8⟩
            by_cases h0 : cap = 0
            · subst h0
              have : len = 0 := by omega
              subst this
              exact ⟨([] : List a.den), ⟨some ad, 0, rfl, Nat.le_refl _, .inr ⟨rfl, rfl⟩⟩, Nat.zero_le _, fun i x hi => by simp [lget] at hi⟩
            · have spot : ad.spot = none := by
                by_cases hl0 : len = 0
                · obtain ⟨hr1, hr2⟩ := hrest (hsp _)
                  have h1 := hr2 0 (by omega)
                  have h2 : rest[0]? = some (rest[0]'(by omega)) := List.getElem?_eq_getElem (by omega)
                  rw [h2, Option.bind_eq_some_iff] at h1
                  obtain ⟨ds, h3, _⟩ := h1
                  rw [hsz, hl0, Nat.zero_add, Nat.zero_mul] at h3
                  obtain ⟨h5, h6⟩ := cells_get h3
                  have h7 := h6 0 (ds[0]'(by omega)) (List.getElem?_eq_getElem (by omega))
                  have := cell_spot h7
                  simpa [Addr.add] using this
                · obtain ⟨y, ⟨ds, h1, h2, _⟩, _⟩ := elem 0 (by omega)
                  have h7 := h1 0 (ds[0]'(by omega)) (List.getElem?_eq_getElem (by omega))
                  have := cell_spot h7
                  simpa [Addr.add] using this
              obtain ⟨r, off, s⟩ := ad
              simp only at spot
              subst spot
              obtain ⟨l, h1, h2⟩ := list_of (fun i (y : a.den) => (∃ ds, (∀ (j : Nat) (v : Value), ds[j]? = some v → w.cell? (((⟨r, off, none⟩ : Addr).add (i * a.size)).add j) = some v) ∧ ds.length = a.size ∧ HC (zAll w) a y ds) ∧ Wf a y) len elem
              refine ⟨l, ⟨some ⟨r, off, none⟩, cap, by rw [h1], by rw [h1]; exact hlc, .inl ⟨r, off, rfl, fun i y hi => ?_⟩⟩, by show l.length ≤ maxLen; omega, fun i y hi => (h2 i y hi).2⟩
              obtain ⟨⟨ds, h3, h4, h5⟩, _⟩ := h2 i y hi
              refine ⟨ds, fun j v hv => ?_, h5⟩
              have := h3 j v hv
              rw [addr_add, addr_add] at this
              exact this
        · cases h
      · cases h
    · rename_i fs hu
      split at h
      · rename_i a ha
        split at h
        · rename_i htot
          cases h
          obtain ⟨m, rfl⟩ : ∃ m, fuel = m + 1 := by
            cases fuel with
            | zero => simp [DataW.trod] at hx
            | succ m => exact ⟨m, rfl⟩
          have hlen : cs.length = P.cellsOf t ∧ ∀ (i : Nat) (f : Field), fs.toList[i]? = some f → ∃ x, DataW.trod enc P w base sp held m f.type ((cs.drop f.offset).take (P.cellsOf f.type)) = some x := by
            unfold DataW.trod at hx
            rw [hu] at hx
            simp only at hx
            split at hx
            · rename_i hl
              rw [Option.map_eq_some_iff] at hx
              obtain ⟨xs, h1, _⟩ := hx
              refine ⟨hl, fun i f hf => ?_⟩
              have h2 := mapM_some_get h1 i f hf
              have h3 := mapM_some_length h1
              have hi := (List.getElem?_eq_some_iff.1 hf).1
              rw [List.getElem?_eq_getElem (by omega)] at h2
              exact ⟨_, h2⟩
            · cases hx
          obtain ⟨hl, hf⟩ := hlen
          have gen : ∀ (l : List Field) (off : Nat) (b : Ty), (∀ f ∈ l, ∃ x, DataW.trod enc P w base sp held m f.type ((cs.drop f.offset).take (P.cellsOf f.type)) = some x) →
              (l.foldr (fun f (r : Nat → Option Ty) off => match layT P n f.type with
                | some a => if f.offset = off ∧ P.cellsOf f.type = a.size then (r (off + a.size)).map (.pair a) else none
                | none => none) (fun _ => some .unit)) off = some b → cs.length = off + b.size → ∃ y : b.den, HC (zAll w) b y (cs.drop off) ∧ Wf b y := by
            intro l
            induction l with
            | nil =>
              intro off b _ h hc
              simp only [List.foldr_nil, Option.some.injEq] at h
              subst h
              refine ⟨(), ?_, trivial⟩
              show cs.drop off = []
              rw [List.drop_eq_nil_iff]
              simp only [Ty.size] at hc
              omega
            | cons f l ihl =>
              intro off b hall h hc
              simp only [List.foldr_cons] at h
              split at h
              · rename_i a1 ha1
                split at h
                · rename_i hoff
                  obtain ⟨rfl, hsz⟩ := hoff
                  rw [Option.map_eq_some_iff] at h
                  obtain ⟨b1, h1, rfl⟩ := h
                  obtain ⟨xf, hxf⟩ := hall f (by simp)
                  rw [hsz] at hxf
                  obtain ⟨y1, h2, h3⟩ := ih m f.type a1 _ _ ha1 hxf
                  simp only [Ty.size] at hc
                  obtain ⟨y2, h4, h5⟩ := ihl _ b1 (fun g hg => hall g (by simp [hg])) h1 (by omega)
                  refine ⟨(y1, y2), ⟨_, _, ?_, h2, h4⟩, h3, h5⟩
                  rw [← List.drop_drop, List.take_append_drop]
                · cases h
              · cases h
          have := gen fs.toList 0 _ (fun f hfm => by
            obtain ⟨i, hi, he⟩ := List.getElem_of_mem hfm
            exact hf i f (by rw [List.getElem?_eq_getElem hi, he])) ha (by omega)
          simpa using this
        · cases h
      · cases h
    · cases h

/-- an argument az the executor takes it -/
def svA (agg : Bool) (ty : Ty) (y : ty.den) : SV := if agg then .agg (flatT ty y) else (flatT ty y).headD .any
theorem svA_agg {w : World} {ty : Ty} {y : ty.den} {cells : Array Value} (h : HC (zAll w) ty y cells.toList) : (svA true ty y).R ⟨fun _ => none, fun _ => none, zAll w⟩ (.agg cells) :=
  ⟨cells.toList, by simp, flatT_R (ρ := ⟨fun _ => none, fun _ => none, zAll w⟩) ty y _ h⟩
theorem svA_one {w : World} {ty : Ty} {y : ty.den} {v : Value} (h : HC (zAll w) ty y [v]) : (svA false ty y).R ⟨fun _ => none, fun _ => none, zAll w⟩ v := by
  have h1 := flatT_R (ρ := ⟨fun _ => none, fun _ => none, zAll w⟩) ty y _ h
  unfold svA
  cases hf : flatT ty y with
  | nil => rw [hf] at h1; simp [SV.RL] at h1
  | cons x l =>
    rw [hf] at h1
    obtain ⟨u, us, e, h2, _⟩ := h1
    cases e
    exact h2
end
end Go.SX

/-
  Lists of ratios: the plain type, and what 'few' looks at.
-/
namespace Go.Proofs.Ytmcejefeloljiaa
open Go.RowKit Nm Go.SX

/-- a ratio as a plain value -/
@[reducible] def ratT : Ty := .pair .bool (.pair .str (.pair .str .unit))
def toRt (x : ratT.den) : Rt := ⟨x.1, x.2.1, x.2.2.1⟩
def few1 (most : Int) (x : ratT.den) : Bool := decide (((x.2.1.size : Nat) : Int) ≤ most) && decide (((x.2.2.1.size : Nat) : Int) ≤ most)
def anys (n : Nat) : List SV := List.replicate n .any
/-- 'few': the state at the loop's head -/
def fewS (most : Int) (l : List ratT.den) (k : Nat) : St := ⟨[.val (.int .i64 most), .dsl ratT l, .any, .any, .any, .val (.int .i64 k)] ++ anys 13, [], []⟩
def fewN : Ex → Option (List Root × List Nat)
  | .normal => some ([], [4, 6, 7, 8, 9, 10, 11, 12, 13, 14, 15, 16, 17, 18])
  | .ret => some ([], [0, 1, 2, 3, 5, 6, 7, 8, 9, 10, 11, 12, 13, 14, 15, 16, 17, 18])
  | _ => some ([], [0, 1, 2, 3, 4, 5, 6, 7, 8, 9, 10, 11, 12, 13, 14, 15, 16, 17, 18])
/-- the states in which the loop ends -/
def fewF (ok : Bool) : Ex × St := bif ok then (.exit 0, ⟨anys 19, [], []⟩) else (.ret, ⟨(anys 19).set 4 (.val (.bool false)), [], []⟩)
def fewR (ok : Bool) : R3 (Ex × St) := .br ok (.ok (fewF true)) (.ok (fewF false))
noncomputable def fewL (most : Int) (l : List ratT.den) : Loops := oneL 0 13 2 [] [2, 3, 4, 6, 7, 8, 9, 10, 11, 12, 13, 14, 15, 16, 17, 18] (fewS most l 0) (fewR (l.all (few1 most))) noL

end Go.Proofs.Ytmcejefeloljiaa

/-
  What a round of the loop of few comes to.
-/
namespace Go.Proofs.Ytmcejefeloljiaa
open Go.RowKit Nm Go.SX

set_option maxRecDepth 100000 in
theorem T_fewB (most : Int) (l : List ratT.den) (k : Nat) : sxB Try.prog noL r7Con.p 60 (13, 0) (loopAt Try.prog 13 2) (fewS most l k) fewN =
    bif decide ((↑k : Int) < (↑l.length : Int)) then
      bif inB (↑k : Int) l.length then
        bif decide ((↑(ByteArray.size (l.getD (↑k : Int).toNat ratT.dflt).snd.fst) : Int) ≤ most) then
          bif !decide ((↑(ByteArray.size (l.getD (↑k : Int).toNat ratT.dflt).snd.snd.fst) : Int) ≤ most) then
            some
              (Ex.ret,
                {
                  t :=
                    [SV.any, SV.any, SV.any, SV.any, SV.val (Value.bool false), SV.any, SV.any, SV.any, SV.any, SV.any,
                      SV.any, SV.any, SV.any, SV.any, SV.any, SV.any, SV.any, SV.any, SV.any],
                  m := [], d := [] })
          else
            some
              (Ex.normal,
                {
                  t :=
                    [SV.val (Value.int IntKind.i64 most), SV.dsl (Ty.bool.pair (Ty.str.pair (Ty.str.pair Ty.unit))) l,
                      SV.any, SV.any, SV.any, SV.val (Value.int IntKind.i64 (IntKind.i64.wrap ((↑k : Int) + 1))), SV.any,
                      SV.any, SV.any, SV.any, SV.any, SV.any, SV.any, SV.any, SV.any, SV.any, SV.any, SV.any, SV.any],
                  m := [], d := [] })
        else
          some
            (Ex.ret,
              {
                t :=
                  [SV.any, SV.any, SV.any, SV.any, SV.val (Value.bool false), SV.any, SV.any, SV.any, SV.any, SV.any,
                    SV.any, SV.any, SV.any, SV.any, SV.any, SV.any, SV.any, SV.any, SV.any],
                m := [], d := [] })
      else none
    else
      some
        (Ex.exit 0,
          {
            t :=
              [SV.any, SV.any, SV.any, SV.any, SV.any, SV.any, SV.any, SV.any, SV.any, SV.any, SV.any, SV.any, SV.any,
                SV.any, SV.any, SV.any, SV.any, SV.any, SV.any],
            m := [], d := [] }) := by kernel_rfl
set_option maxRecDepth 100000 in
theorem T_few (most : Int) (l : List ratT.den) : sxE Try.prog (fewL most l) r7Con.p 60 13 [.val (.int .i64 most), .dsl ratT l] =
    bif
        eqS
          {
            t :=
              [SV.val (Value.int IntKind.i64 most), SV.dsl ratT l, SV.any, SV.any, SV.any, SV.val (Value.int IntKind.i64 0),
                SV.any, SV.any, SV.any, SV.any, SV.any, SV.any, SV.any, SV.any, SV.any, SV.any, SV.any, SV.any, SV.any],
            m := [], d := [] }
          (fewS most l 0) then
      bif l.all (few1 most) then some (OutE.ret (SV.val (Value.bool true))) else some (OutE.ret (SV.val (Value.bool false)))
    else none := by kernel_rfl

end Go.Proofs.Ytmcejefeloljiaa

/-
  What 'few' of a list of ratios comes to.
-/
namespace Go.Proofs.Ytmcejefeloljiaa
set_option linter.unusedSimpArgs false
set_option linter.unusedVariables false
open Go.RowKit Nm Go.SX

theorem few_at : (loopsAt Try.prog 13 2).length = 1 := by kernel_rfl
theorem wrapN {k : Nat} (h : k + 1 ≤ maxLen) : IntKind.i64.wrap ((k : Int) + 1) = ((k + 1 : Nat) : Int) := by
  unfold maxLen at h
  rw [wrapI (by omega) (by omega)]
  omega
theorem inB_nat {k n : Nat} (h : k < n) : inB (k : Int) n = true := by
  unfold inB
  rw [Bool.and_eq_true, decide_eq_true_eq, decide_eq_true_eq]
  omega
theorem getD_get {α : Type} {l : List α} {k : Nat} (h : k < l.length) (d : α) : l.getD (k : Int).toNat d = l[k] := by
  rw [Int.toNat_natCast, List.getD_eq_getElem?_getD, List.getElem?_eq_getElem h]
  rfl
theorem few_loop (most : Int) (l : List ratT.den) (hl : l.length ≤ maxLen) (hin : InF Try.prog 13 (loopAt Try.prog 13 2)) (k : Nat) :
    Runs Try.prog Rd.no 0 (.loop (loopAt Try.prog 13 2)) (fewS most l k) (fewF ((l.drop k).all (few1 most))).1 (fewF ((l.drop k).all (few1 most))).2 := by
  refine loop_rule (fewS most l) (fun k => fewF ((l.drop k).all (few1 most))) (fun k => l.length - k) (fun k => ?_) k
  have sound : ∀ e s', sxB Try.prog noL r7Con.p 60 (13, 0) (loopAt Try.prog 13 2) (fewS most l k) fewN = some (e, s') → ∃ X, Runs Try.prog Rd.no 0 (loopAt Try.prog 13 2) (fewS most l k) e X ∧ Ren 0 X s' :=
    fun e s' h => sxB_sound (f := (13, 0)) pOk (ECon.ok r7Con_ok) noL_ok hin h
  rw [T_fewB] at sound
  by_cases hk : k < l.length
  · have hk' : decide ((k : Int) < (l.length : Int)) = true := decide_eq_true (by omega)
    rw [hk', inB_nat hk, getD_get hk, wrapN (by omega)] at sound
    simp only [cond_true] at sound
    rw [List.drop_eq_getElem_cons hk, List.all_cons]
    unfold few1
    cases h1 : decide ((((l[k].2.1).size : Nat) : Int) ≤ most) with
    | false =>
      right
      rw [h1] at sound
      obtain ⟨X, g1, g2⟩ := sound _ _ rfl
      exact ⟨X, by simp [fewF], rfl, g1, g2⟩
    | true =>
      rw [h1] at sound
      cases h2 : decide ((((l[k].2.2.1).size : Nat) : Int) ≤ most) with
      | false =>
        right
        rw [h2] at sound
        obtain ⟨X, g1, g2⟩ := sound _ _ rfl
        exact ⟨X, by simp [fewF], rfl, g1, g2⟩
      | true =>
        left
        rw [h2] at sound
        obtain ⟨X, g1, g2⟩ := sound _ _ rfl
        exact ⟨X, k + 1, g1, g2, by omega, by simp [few1]⟩
  · right
    have hk' : decide ((k : Int) < (l.length : Int)) = false := decide_eq_false (by omega)
    rw [hk'] at sound
    obtain ⟨X, g1, g2⟩ := sound _ _ rfl
    rw [List.drop_eq_nil_of_le (by omega)]
    exact ⟨X, by simp [fewF], rfl, g1, g2⟩
theorem fewL_ok (most : Int) (l : List ratT.den) (hl : l.length ≤ maxLen) : LoopsOk Try.prog Rd.no (fewL most l) := by
  refine oneL_ok few_at noL_ok fun hin e s1 h => ?_
  have h1 := few_loop most l hl hin 0
  rw [List.drop_zero] at h1
  have h2 : fewF (l.all (few1 most)) = (e, s1) := by
    unfold fewR R3.res at h
    cases hb : l.all (few1 most) <;> rw [hb] at h <;> exact Option.some.inj h
  rw [h2] at h1
  exact h1
theorem few_plain (most : Int) (l : List ratT.den) (hl : l.length ≤ maxLen) : HasBody Try.prog 13 ∧ DPlain Try.prog 13 [.val (.int .i64 most), .dsl ratT l] (.ret (.val (.bool (l.all (few1 most))))) := by
  refine sxE_sound pOk (ECon.ok r7Con_ok) (fewL_ok most l hl) 60 ?_
  rw [T_few]
  rw [eqS_cond]
  · cases l.all (few1 most) <;> rfl
  · kernel_rfl

end Go.Proofs.Ytmcejefeloljiaa

/-
  Sums of lists of ratios: the loops.
-/
namespace Go.Proofs.Ytmcejefeloljiaa
open Go.RowKit Nm Go.SX

def suAS (l : List ratT.den) (k : Nat) : St := ⟨[.dsl ratT l] ++ anys 1 ++ [.ptr 0 0] ++ anys 5 ++ [.dsl ratT l, .val (.int .i64 l.length), .val (.int .i64 k)] ++ anys 29, [.cells [.val (.bool false), .val (.string (bs [])), .val (.string (bs []))] 23 true], []⟩
def suAN : Ex → Option (List Root × List Nat)
  | .normal => some ([.n 0], [1, 3, 4, 5, 6, 7, 11, 12, 13, 14, 15, 16, 17, 18, 19, 20, 21, 22, 23, 24, 25, 26, 27, 28, 29, 30, 31, 32, 33, 34, 35, 36, 37, 38, 39])
  | .ret => some ([.n 0], [0, 1, 4, 5, 6, 7, 8, 9, 10, 11, 12, 13, 14, 15, 16, 17, 18, 19, 20, 21, 22, 23, 24, 25, 26, 27, 28, 29, 30, 31, 32, 33, 34, 35, 36, 37, 38, 39])
  | _ => some ([.n 0], [1, 3, 4, 5, 6, 7, 8, 9, 10, 11, 12, 13, 14, 15, 16, 17, 18, 19, 20, 21, 22, 23, 24, 25, 26, 27, 28, 29, 30, 31, 32, 33, 34, 35, 36, 37, 38, 39])
def suAK : List Nat := [1, 3, 4, 5, 6, 7, 11, 12, 13, 14, 15, 16, 17, 18, 19, 20, 21, 22, 23, 24, 25, 26, 27, 28, 29, 30, 31, 32, 33, 34, 35, 36, 37, 38, 39]
def suBS (l : List ratT.den) (s : Rt) (k : Nat) : St := ⟨anys 2 ++ [.ptr 0 0] ++ anys 19 ++ [.dsl ratT l, .val (.int .i64 l.length), .val (.int .i64 k)] ++ anys 15, [.cells [.val (.bool s.neg), .val (.string s.n), .val (.string s.d)] 23 true], []⟩
def suBN : Ex → Option (List Root × List Nat)
  | .normal => some ([.n 0], [0, 1, 3, 4, 5, 6, 7, 8, 9, 10, 11, 12, 13, 14, 15, 16, 17, 18, 19, 20, 21, 25, 26, 27, 28, 29, 30, 31, 32, 33, 34, 35, 36, 37, 38, 39])
  | .ret => some ([.n 0], [0, 1, 4, 5, 6, 7, 8, 9, 10, 11, 12, 13, 14, 15, 16, 17, 18, 19, 20, 21, 22, 23, 24, 25, 26, 27, 28, 29, 30, 31, 32, 33, 34, 35, 36, 37, 38, 39])
  | _ => some ([.n 0], [0, 1, 3, 4, 5, 6, 7, 8, 9, 10, 11, 12, 13, 14, 15, 16, 17, 18, 19, 20, 21, 22, 23, 24, 25, 26, 27, 28, 29, 30, 31, 32, 33, 34, 35, 36, 37, 38, 39])
def suBK : List Nat := [0, 1, 3, 4, 5, 6, 7, 8, 9, 10, 11, 12, 13, 14, 15, 16, 17, 18, 19, 20, 21, 25, 26, 27, 28, 29, 30, 31, 32, 33, 34, 35, 36, 37, 38, 39]
def rsAS (l : List ratT.den) (k : Nat) : St := ⟨[.dsl ratT l] ++ anys 1 ++ [.ptr 0 0] ++ anys 1 ++ [.val (.int .i64 k)] ++ anys 37, [.cells [.val (.bool false), .val (.string (bs [])), .val (.string (bs []))] 23 true], []⟩
def rsAN : Ex → Option (List Root × List Nat)
  | .normal => some ([.n 0], [1, 3, 5, 6, 7, 8, 9, 10, 11, 12, 13, 14, 15, 16, 17, 18, 19, 20, 21, 22, 23, 24, 25, 26, 27, 28, 29, 30, 31, 32, 33, 34, 35, 36, 37, 38, 39, 40, 41])
  | .ret => some ([.n 0], [0, 1, 4, 5, 6, 7, 8, 9, 10, 11, 12, 13, 14, 15, 16, 17, 18, 19, 20, 21, 22, 23, 24, 25, 26, 27, 28, 29, 30, 31, 32, 33, 34, 35, 36, 37, 38, 39, 40, 41])
  | _ => some ([.n 0], [1, 3, 4, 5, 6, 7, 8, 9, 10, 11, 12, 13, 14, 15, 16, 17, 18, 19, 20, 21, 22, 23, 24, 25, 26, 27, 28, 29, 30, 31, 32, 33, 34, 35, 36, 37, 38, 39, 40, 41])
def rsAK : List Nat := [1, 3, 5, 6, 7, 8, 9, 10, 11, 12, 13, 14, 15, 16, 17, 18, 19, 20, 21, 22, 23, 24, 25, 26, 27, 28, 29, 30, 31, 32, 33, 34, 35, 36, 37, 38, 39, 40, 41]
def rsBS (l : List ratT.den) (s : Rt) (k : Nat) : St := ⟨[.dsl ratT l] ++ anys 1 ++ [.ptr 0 0] ++ anys 2 ++ [.ptr 1 0] ++ anys 1 ++ [.val (.int .i64 k)] ++ anys 34, [.cells [.val (.bool false), .val (.string (bs [])), .val (.string (bs []))] 23 true, .cells [.val (.bool s.neg), .val (.string s.n), .val (.string s.d)] 23 true], []⟩
def rsBN : Ex → Option (List Root × List Nat)
  | .normal => some ([.n 0, .n 1], [1, 3, 4, 6, 8, 9, 10, 11, 12, 13, 14, 15, 16, 17, 18, 19, 20, 21, 22, 23, 24, 25, 26, 27, 28, 29, 30, 31, 32, 33, 34, 35, 36, 37, 38, 39, 40, 41])
  | .ret => some ([.n 0], [0, 1, 4, 5, 6, 7, 8, 9, 10, 11, 12, 13, 14, 15, 16, 17, 18, 19, 20, 21, 22, 23, 24, 25, 26, 27, 28, 29, 30, 31, 32, 33, 34, 35, 36, 37, 38, 39, 40, 41])
  | _ => some ([.n 0, .n 1], [0, 1, 3, 4, 6, 7, 8, 9, 10, 11, 12, 13, 14, 15, 16, 17, 18, 19, 20, 21, 22, 23, 24, 25, 26, 27, 28, 29, 30, 31, 32, 33, 34, 35, 36, 37, 38, 39, 40, 41])
def rsBK : List Nat := [1, 3, 4, 6, 8, 9, 10, 11, 12, 13, 14, 15, 16, 17, 18, 19, 20, 21, 22, 23, 24, 25, 26, 27, 28, 29, 30, 31, 32, 33, 34, 35, 36, 37, 38, 39, 40, 41]
/-- sums -/
def okR (x : ratT.den) : Bool := checkR (toRt x) == 0
def foldR : Rt → List ratT.den → Rt × Int
  | s, [] => (s, 0)
  | s, x :: l => bif (addR s (toRt x)).2 != 0 then (zR, (addR s (toRt x)).2) else foldR (addR s (toRt x)).1 l
def sumF (l : List ratT.den) : Rt × Int := bif l.all okR then foldR ⟨false, bs [], bs [1]⟩ l else (zR, 70)
def suAF (l : List ratT.den) (ok : Bool) : Ex × St := bif ok then (.exit 0, ⟨[.dsl ratT l] ++ anys 1 ++ [.ptr 0 0] ++ anys 37, [.cells [.val (.bool false), .val (.string (bs [])), .val (.string (bs []))] 23 true], []⟩) else (.ret, ⟨anys 2 ++ [.ptr 0 0, .val (.int .i64 70)] ++ anys 36, [.cells [.val (.bool false), .val (.string (bs [])), .val (.string (bs []))] 23 true], []⟩)
def suBF (p : Rt × Int) : Ex × St := bif p.2 == 0 then (.exit 2, ⟨anys 2 ++ [.ptr 0 0] ++ anys 37, [.cells [.val (.bool p.1.neg), .val (.string p.1.n), .val (.string p.1.d)] 23 true], []⟩) else (.ret, ⟨anys 2 ++ [.ptr 0 0, .val (.int .i64 p.2)] ++ anys 36, [.cells [.val (.bool p.1.neg), .val (.string p.1.n), .val (.string p.1.d)] 23 true], []⟩)
def rsAF (l : List ratT.den) (ok : Bool) : Ex × St := bif ok then (.exit 0, ⟨[.dsl ratT l] ++ anys 1 ++ [.ptr 0 0] ++ anys 39, [.cells [.val (.bool false), .val (.string (bs [])), .val (.string (bs []))] 23 true], []⟩) else (.ret, ⟨anys 2 ++ [.ptr 0 0, .val (.int .i64 70)] ++ anys 38, [.cells [.val (.bool false), .val (.string (bs [])), .val (.string (bs []))] 23 true], []⟩)
def rsBF (p : Rt × Int) : Ex × St := bif p.2 == 0 then (.exit 2, ⟨anys 2 ++ [.ptr 0 0] ++ anys 2 ++ [.ptr 1 0] ++ anys 36, [.cells [.val (.bool false), .val (.string (bs [])), .val (.string (bs []))] 23 true, .cells [.val (.bool p.1.neg), .val (.string p.1.n), .val (.string p.1.d)] 23 true], []⟩) else (.ret, ⟨anys 2 ++ [.ptr 0 0, .val (.int .i64 p.2)] ++ anys 38, [.cells [.val (.bool p.1.neg), .val (.string p.1.n), .val (.string p.1.d)] 23 true], []⟩)
def two2 {α : Type} (f : α → R3 (Ex × St)) (b : Bool) (x y : α) : R3 (Ex × St) := .br b (f x) (f y)
noncomputable def suL (l : List ratT.den) : Loops :=
  oneL 0 20 2 [.n 0] suAK (suAS l 0) (.br (l.all okR) (.ok (suAF l true)) (.ok (suAF l false)))
    (oneL 0 20 10 [.n 0] suBK (suBS l ⟨false, bs [], bs [1]⟩ 0) (.br ((foldR ⟨false, bs [], bs [1]⟩ l).2 == 0) (.ok (suBF ((foldR ⟨false, bs [], bs [1]⟩ l).1, 0))) (.ok (.ret, ⟨anys 2 ++ [.ptr 0 0, .val (.int .i64 (foldR ⟨false, bs [], bs [1]⟩ l).2)] ++ anys 36, [.cells [.val (.bool (foldR ⟨false, bs [], bs [1]⟩ l).1.neg), .val (.string (foldR ⟨false, bs [], bs [1]⟩ l).1.n), .val (.string (foldR ⟨false, bs [], bs [1]⟩ l).1.d)] 23 true], []⟩))) noL)
noncomputable def rsL (l : List ratT.den) : Loops :=
  oneL 0 21 2 [.n 0] rsAK (rsAS l 0) (.br (l.all okR) (.ok (rsAF l true)) (.ok (rsAF l false)))
    (oneL 0 21 9 [.n 0, .n 1] rsBK (rsBS l ⟨false, bs [], bs [1]⟩ 0) (.br ((foldR ⟨false, bs [], bs [1]⟩ l).2 == 0) (.ok (rsBF ((foldR ⟨false, bs [], bs [1]⟩ l).1, 0))) (.ok (.ret, ⟨anys 2 ++ [.ptr 0 0, .val (.int .i64 (foldR ⟨false, bs [], bs [1]⟩ l).2)] ++ anys 38, [.cells [.val (.bool (foldR ⟨false, bs [], bs [1]⟩ l).1.neg), .val (.string (foldR ⟨false, bs [], bs [1]⟩ l).1.n), .val (.string (foldR ⟨false, bs [], bs [1]⟩ l).1.d)] 23 true], []⟩))) noL)

end Go.Proofs.Ytmcejefeloljiaa

/-
  What the loops of Sum come to, a round at a time.
-/
namespace Go.Proofs.Ytmcejefeloljiaa
open Go.RowKit Nm Go.SX

set_option maxRecDepth 100000 in
theorem T_suA (l : List ratT.den) (k : Nat) : sxB Try.prog noL r7Con.p 60 (20, 0) (loopAt Try.prog 20 2) (suAS l k) suAN =
    bif decide ((↑k : Int) < (↑l.length : Int)) then
      bif inB (↑k : Int) l.length then
        bif szB (l.getD (↑k : Int).toNat ratT.dflt).snd.fst && szB (l.getD (↑k : Int).toNat ratT.dflt).snd.snd.fst then
          bif
              checkR
                  { neg := (l.getD (↑k : Int).toNat ratT.dflt).fst, n := (l.getD (↑k : Int).toNat ratT.dflt).snd.fst,
                    d := (l.getD (↑k : Int).toNat ratT.dflt).snd.snd.fst } !=
                0 then
            some
              (Ex.ret,
                {
                  t :=
                    [SV.any, SV.any, SV.ptr 0 0,
                      SV.val
                        (Value.int IntKind.i64
                          (checkR
                            { neg := (l.getD (↑k : Int).toNat ratT.dflt).fst,
                              n := (l.getD (↑k : Int).toNat ratT.dflt).snd.fst,
                              d := (l.getD (↑k : Int).toNat ratT.dflt).snd.snd.fst })),
                      SV.any, SV.any, SV.any, SV.any, SV.any, SV.any, SV.any, SV.any, SV.any, SV.any, SV.any, SV.any,
                      SV.any, SV.any, SV.any, SV.any, SV.any, SV.any, SV.any, SV.any, SV.any, SV.any, SV.any, SV.any,
                      SV.any, SV.any, SV.any, SV.any, SV.any, SV.any, SV.any, SV.any, SV.any, SV.any, SV.any, SV.any],
                  m :=
                    [Blk.cells [SV.val (Value.bool false), SV.val (Value.string (bs [])), SV.val (Value.string (bs []))] 23
                        true],
                  d := [] })
          else
            some
              (Ex.normal,
                {
                  t :=
                    [SV.dsl (Ty.bool.pair (Ty.str.pair (Ty.str.pair Ty.unit))) l, SV.any, SV.ptr 0 0, SV.any, SV.any,
                      SV.any, SV.any, SV.any, SV.dsl (Ty.bool.pair (Ty.str.pair (Ty.str.pair Ty.unit))) l,
                      SV.val (Value.int IntKind.i64 (↑l.length : Int)),
                      SV.val (Value.int IntKind.i64 (IntKind.i64.wrap ((↑k : Int) + 1))), SV.any, SV.any, SV.any, SV.any,
                      SV.any, SV.any, SV.any, SV.any, SV.any, SV.any, SV.any, SV.any, SV.any, SV.any, SV.any, SV.any,
                      SV.any, SV.any, SV.any, SV.any, SV.any, SV.any, SV.any, SV.any, SV.any, SV.any, SV.any, SV.any,
                      SV.any],
                  m :=
                    [Blk.cells [SV.val (Value.bool false), SV.val (Value.string (bs [])), SV.val (Value.string (bs []))] 23
                        true],
                  d := [] })
        else none
      else none
    else
      some
        (Ex.exit 0,
          {
            t :=
              [SV.dsl (Ty.bool.pair (Ty.str.pair (Ty.str.pair Ty.unit))) l, SV.any, SV.ptr 0 0, SV.any, SV.any, SV.any,
                SV.any, SV.any, SV.any, SV.any, SV.any, SV.any, SV.any, SV.any, SV.any, SV.any, SV.any, SV.any, SV.any,
                SV.any, SV.any, SV.any, SV.any, SV.any, SV.any, SV.any, SV.any, SV.any, SV.any, SV.any, SV.any, SV.any,
                SV.any, SV.any, SV.any, SV.any, SV.any, SV.any, SV.any, SV.any],
            m :=
              [Blk.cells [SV.val (Value.bool false), SV.val (Value.string (bs [])), SV.val (Value.string (bs []))] 23 true],
            d := [] }) := by kernel_rfl
set_option maxRecDepth 100000 in
theorem T_suB (l : List ratT.den) (s : Rt) (k : Nat) : sxB Try.prog noL r7Con.p 60 (20, 0) (loopAt Try.prog 20 10) (suBS l s k) suBN =
    bif decide ((↑k : Int) < (↑l.length : Int)) then
      bif inB (↑k : Int) l.length then
        bif
            szB s.n && szB s.d &&
              (szB (l.getD (↑k : Int).toNat ratT.dflt).snd.fst && szB (l.getD (↑k : Int).toNat ratT.dflt).snd.snd.fst) then
          bif
              (addR s
                    { neg := (l.getD (↑k : Int).toNat ratT.dflt).fst, n := (l.getD (↑k : Int).toNat ratT.dflt).snd.fst,
                      d := (l.getD (↑k : Int).toNat ratT.dflt).snd.snd.fst }).snd !=
                0 then
            some
              (Ex.ret,
                {
                  t :=
                    [SV.any, SV.any, SV.ptr 0 0,
                      SV.val
                        (Value.int IntKind.i64
                          (addR s
                              { neg := (l.getD (↑k : Int).toNat ratT.dflt).fst,
                                n := (l.getD (↑k : Int).toNat ratT.dflt).snd.fst,
                                d := (l.getD (↑k : Int).toNat ratT.dflt).snd.snd.fst }).snd),
                      SV.any, SV.any, SV.any, SV.any, SV.any, SV.any, SV.any, SV.any, SV.any, SV.any, SV.any, SV.any,
                      SV.any, SV.any, SV.any, SV.any, SV.any, SV.any, SV.any, SV.any, SV.any, SV.any, SV.any, SV.any,
                      SV.any, SV.any, SV.any, SV.any, SV.any, SV.any, SV.any, SV.any, SV.any, SV.any, SV.any, SV.any],
                  m :=
                    [Blk.cells
                        [SV.val (Value.bool false), SV.val (Value.string (bs [])),
                          SV.val (Value.string (bs []))]
                        23 true],
                  d := [] })
          else
            some
              (Ex.normal,
                {
                  t :=
                    [SV.any, SV.any, SV.ptr 0 0, SV.any, SV.any, SV.any, SV.any, SV.any, SV.any, SV.any, SV.any, SV.any,
                      SV.any, SV.any, SV.any, SV.any, SV.any, SV.any, SV.any, SV.any, SV.any, SV.any,
                      SV.dsl (Ty.bool.pair (Ty.str.pair (Ty.str.pair Ty.unit))) l,
                      SV.val (Value.int IntKind.i64 (↑l.length : Int)),
                      SV.val (Value.int IntKind.i64 (IntKind.i64.wrap ((↑k : Int) + 1))), SV.any, SV.any, SV.any, SV.any,
                      SV.any, SV.any, SV.any, SV.any, SV.any, SV.any, SV.any, SV.any, SV.any, SV.any, SV.any],
                  m :=
                    [Blk.cells
                        [SV.val
                            (Value.bool
                              (addR s
                                    { neg := (l.getD (↑k : Int).toNat ratT.dflt).fst,
                                      n := (l.getD (↑k : Int).toNat ratT.dflt).snd.fst,
                                      d := (l.getD (↑k : Int).toNat ratT.dflt).snd.snd.fst }).fst.neg),
                          SV.val
                            (Value.string
                              (addR s
                                    { neg := (l.getD (↑k : Int).toNat ratT.dflt).fst,
                                      n := (l.getD (↑k : Int).toNat ratT.dflt).snd.fst,
                                      d := (l.getD (↑k : Int).toNat ratT.dflt).snd.snd.fst }).fst.n),
                          SV.val
                            (Value.string
                              (addR s
                                    { neg := (l.getD (↑k : Int).toNat ratT.dflt).fst,
                                      n := (l.getD (↑k : Int).toNat ratT.dflt).snd.fst,
                                      d := (l.getD (↑k : Int).toNat ratT.dflt).snd.snd.fst }).fst.d)]
                        23 true],
                  d := [] })
        else none
      else none
    else
      some
        (Ex.exit 2,
          {
            t :=
              [SV.any, SV.any, SV.ptr 0 0, SV.any, SV.any, SV.any, SV.any, SV.any, SV.any, SV.any, SV.any, SV.any, SV.any,
                SV.any, SV.any, SV.any, SV.any, SV.any, SV.any, SV.any, SV.any, SV.any, SV.any, SV.any, SV.any, SV.any,
                SV.any, SV.any, SV.any, SV.any, SV.any, SV.any, SV.any, SV.any, SV.any, SV.any, SV.any, SV.any, SV.any,
                SV.any],
            m := [Blk.cells [SV.val (Value.bool s.neg), SV.val (Value.string s.n), SV.val (Value.string s.d)] 23 true],
            d := [] }) := by kernel_rfl
set_option maxRecDepth 100000 in
theorem T_rsA (l : List ratT.den) (k : Nat) : sxB Try.prog noL r7Con.p 60 (21, 0) (loopAt Try.prog 21 2) (rsAS l k) rsAN =
    bif decide ((↑k : Int) < (↑l.length : Int)) then
      bif inB (↑k : Int) l.length then
        bif szB (l.getD (↑k : Int).toNat ratT.dflt).snd.fst && szB (l.getD (↑k : Int).toNat ratT.dflt).snd.snd.fst then
          bif
              checkR
                  { neg := (l.getD (↑k : Int).toNat ratT.dflt).fst, n := (l.getD (↑k : Int).toNat ratT.dflt).snd.fst,
                    d := (l.getD (↑k : Int).toNat ratT.dflt).snd.snd.fst } !=
                0 then
            some
              (Ex.ret,
                {
                  t :=
                    [SV.any, SV.any, SV.ptr 0 0, SV.val (Value.int IntKind.i64 70), SV.any, SV.any, SV.any, SV.any, SV.any,
                      SV.any, SV.any, SV.any, SV.any, SV.any, SV.any, SV.any, SV.any, SV.any, SV.any, SV.any, SV.any,
                      SV.any, SV.any, SV.any, SV.any, SV.any, SV.any, SV.any, SV.any, SV.any, SV.any, SV.any, SV.any,
                      SV.any, SV.any, SV.any, SV.any, SV.any, SV.any, SV.any, SV.any, SV.any],
                  m :=
                    [Blk.cells
                        [SV.val (Value.bool false), SV.val (Value.string (bs [])),
                          SV.val (Value.string (bs []))]
                        23 true],
                  d := [] })
          else
            some
              (Ex.normal,
                {
                  t :=
                    [SV.dsl (Ty.bool.pair (Ty.str.pair (Ty.str.pair Ty.unit))) l, SV.any, SV.ptr 0 0, SV.any,
                      SV.val (Value.int IntKind.i64 (IntKind.i64.wrap ((↑k : Int) + 1))), SV.any, SV.any, SV.any, SV.any,
                      SV.any, SV.any, SV.any, SV.any, SV.any, SV.any, SV.any, SV.any, SV.any, SV.any, SV.any, SV.any,
                      SV.any, SV.any, SV.any, SV.any, SV.any, SV.any, SV.any, SV.any, SV.any, SV.any, SV.any, SV.any,
                      SV.any, SV.any, SV.any, SV.any, SV.any, SV.any, SV.any, SV.any, SV.any],
                  m :=
                    [Blk.cells [SV.val (Value.bool false), SV.val (Value.string (bs [])), SV.val (Value.string (bs []))] 23
                        true],
                  d := [] })
        else none
      else none
    else
      some
        (Ex.exit 0,
          {
            t :=
              [SV.dsl (Ty.bool.pair (Ty.str.pair (Ty.str.pair Ty.unit))) l, SV.any, SV.ptr 0 0, SV.any, SV.any, SV.any,
                SV.any, SV.any, SV.any, SV.any, SV.any, SV.any, SV.any, SV.any, SV.any, SV.any, SV.any, SV.any, SV.any,
                SV.any, SV.any, SV.any, SV.any, SV.any, SV.any, SV.any, SV.any, SV.any, SV.any, SV.any, SV.any, SV.any,
                SV.any, SV.any, SV.any, SV.any, SV.any, SV.any, SV.any, SV.any, SV.any, SV.any],
            m :=
              [Blk.cells [SV.val (Value.bool false), SV.val (Value.string (bs [])), SV.val (Value.string (bs []))] 23 true],
            d := [] }) := by kernel_rfl
set_option maxRecDepth 100000 in
theorem T_rsB (l : List ratT.den) (s : Rt) (k : Nat) : sxB Try.prog noL r7Con.p 60 (21, 0) (loopAt Try.prog 21 9) (rsBS l s k) rsBN =
    bif decide ((↑k : Int) < (↑l.length : Int)) then
      bif inB (↑k : Int) l.length then
        bif
            szB s.n && szB s.d &&
              (szB (l.getD (↑k : Int).toNat ratT.dflt).snd.fst && szB (l.getD (↑k : Int).toNat ratT.dflt).snd.snd.fst) then
          bif
              (addR s
                    { neg := (l.getD (↑k : Int).toNat ratT.dflt).fst, n := (l.getD (↑k : Int).toNat ratT.dflt).snd.fst,
                      d := (l.getD (↑k : Int).toNat ratT.dflt).snd.snd.fst }).snd !=
                0 then
            some
              (Ex.ret,
                {
                  t :=
                    [SV.any, SV.any, SV.ptr 0 0,
                      SV.val
                        (Value.int IntKind.i64
                          (addR s
                              { neg := (l.getD (↑k : Int).toNat ratT.dflt).fst,
                                n := (l.getD (↑k : Int).toNat ratT.dflt).snd.fst,
                                d := (l.getD (↑k : Int).toNat ratT.dflt).snd.snd.fst }).snd),
                      SV.any, SV.any, SV.any, SV.any, SV.any, SV.any, SV.any, SV.any, SV.any, SV.any, SV.any, SV.any,
                      SV.any, SV.any, SV.any, SV.any, SV.any, SV.any, SV.any, SV.any, SV.any, SV.any, SV.any, SV.any,
                      SV.any, SV.any, SV.any, SV.any, SV.any, SV.any, SV.any, SV.any, SV.any, SV.any, SV.any, SV.any,
                      SV.any, SV.any],
                  m :=
                    [Blk.cells
                        [SV.val (Value.bool false), SV.val (Value.string (bs [])),
                          SV.val (Value.string (bs []))]
                        23 true],
                  d := [] })
          else
            some
              (Ex.normal,
                {
                  t :=
                    [SV.dsl (Ty.bool.pair (Ty.str.pair (Ty.str.pair Ty.unit))) l, SV.any, SV.ptr 0 0, SV.any, SV.any,
                      SV.ptr 1 0, SV.any, SV.val (Value.int IntKind.i64 (IntKind.i64.wrap ((↑k : Int) + 1))), SV.any,
                      SV.any, SV.any, SV.any, SV.any, SV.any, SV.any, SV.any, SV.any, SV.any, SV.any, SV.any, SV.any,
                      SV.any, SV.any, SV.any, SV.any, SV.any, SV.any, SV.any, SV.any, SV.any, SV.any, SV.any, SV.any,
                      SV.any, SV.any, SV.any, SV.any, SV.any, SV.any, SV.any, SV.any, SV.any],
                  m :=
                    [Blk.cells [SV.val (Value.bool false), SV.val (Value.string (bs [])), SV.val (Value.string (bs []))] 23
                        true,
                      Blk.cells
                        [SV.val
                            (Value.bool
                              (addR s
                                    { neg := (l.getD (↑k : Int).toNat ratT.dflt).fst,
                                      n := (l.getD (↑k : Int).toNat ratT.dflt).snd.fst,
                                      d := (l.getD (↑k : Int).toNat ratT.dflt).snd.snd.fst }).fst.neg),
                          SV.val
                            (Value.string
                              (addR s
                                    { neg := (l.getD (↑k : Int).toNat ratT.dflt).fst,
                                      n := (l.getD (↑k : Int).toNat ratT.dflt).snd.fst,
                                      d := (l.getD (↑k : Int).toNat ratT.dflt).snd.snd.fst }).fst.n),
                          SV.val
                            (Value.string
                              (addR s
                                    { neg := (l.getD (↑k : Int).toNat ratT.dflt).fst,
                                      n := (l.getD (↑k : Int).toNat ratT.dflt).snd.fst,
                                      d := (l.getD (↑k : Int).toNat ratT.dflt).snd.snd.fst }).fst.d)]
                        23 true],
                  d := [] })
        else none
      else none
    else
      some
        (Ex.exit 2,
          {
            t :=
              [SV.any, SV.any, SV.ptr 0 0, SV.any, SV.any, SV.ptr 1 0, SV.any, SV.any, SV.any, SV.any, SV.any, SV.any,
                SV.any, SV.any, SV.any, SV.any, SV.any, SV.any, SV.any, SV.any, SV.any, SV.any, SV.any, SV.any, SV.any,
                SV.any, SV.any, SV.any, SV.any, SV.any, SV.any, SV.any, SV.any, SV.any, SV.any, SV.any, SV.any, SV.any,
                SV.any, SV.any, SV.any, SV.any],
            m :=
              [Blk.cells [SV.val (Value.bool false), SV.val (Value.string (bs [])), SV.val (Value.string (bs []))] 23 true,
                Blk.cells [SV.val (Value.bool s.neg), SV.val (Value.string s.n), SV.val (Value.string s.d)] 23 true],
            d := [] }) := by kernel_rfl
set_option maxRecDepth 100000 in
theorem T_sum (l : List ratT.den) : sxE Try.prog (suL l) r7Con.p 60 20 [.dsl ratT l] =
    bif
        eqS
          {
            t :=
              [SV.dsl ratT l, SV.any, SV.ptr 0 0, SV.any, SV.any, SV.any, SV.any, SV.any, SV.dsl ratT l,
                SV.val (Value.int IntKind.i64 (↑l.length : Int)), SV.val (Value.int IntKind.i64 0), SV.any, SV.any, SV.any,
                SV.any, SV.any, SV.any, SV.any, SV.any, SV.any, SV.any, SV.any, SV.any, SV.any, SV.any, SV.any, SV.any,
                SV.any, SV.any, SV.any, SV.any, SV.any, SV.any, SV.any, SV.any, SV.any, SV.any, SV.any, SV.any, SV.any],
            m :=
              [Blk.cells
                  [SV.val (Value.bool false), SV.val (Value.string (bs [])), SV.val (Value.string (bs []))]
                  23 true],
            d := [] }
          (suAS l 0) then
      bif l.all okR then
        bif
            eqS
              {
                t :=
                  [SV.any, SV.any, SV.ptr 0 0, SV.any, SV.any, SV.any, SV.any, SV.any, SV.any, SV.any, SV.any, SV.any,
                    SV.any, SV.any, SV.any, SV.any, SV.any, SV.any, SV.any, SV.any, SV.any, SV.any, SV.dsl ratT l,
                    SV.val (Value.int IntKind.i64 (↑l.length : Int)), SV.val (Value.int IntKind.i64 0), SV.any, SV.any,
                    SV.any, SV.any, SV.any, SV.any, SV.any, SV.any, SV.any, SV.any, SV.any, SV.any, SV.any, SV.any, SV.any],
                m :=
                  [Blk.cells
                      [SV.val (Value.bool false), SV.val (Value.string (bs [])),
                        SV.val (Value.string (bs [1]))]
                      23 true],
                d := [] }
              (suBS l { neg := false, n := bs [], d := bs [1] } 0) then
          bif (foldR { neg := false, n := bs [], d := bs [1] } l).snd == 0 then
            some
              (OutE.ret
                (SV.tup
                  [SV.agg
                      [SV.val (Value.bool ((foldR { neg := false, n := bs [], d := bs [1] } l).fst, 0).fst.neg),
                        SV.val (Value.string ((foldR { neg := false, n := bs [], d := bs [1] } l).fst, 0).fst.n),
                        SV.val (Value.string ((foldR { neg := false, n := bs [], d := bs [1] } l).fst, 0).fst.d)],
                    SV.val (Value.int IntKind.i64 0)]))
          else
            some
              (OutE.ret
                (SV.tup
                  [SV.agg
                      [SV.val (Value.bool (foldR { neg := false, n := bs [], d := bs [1] } l).fst.neg),
                        SV.val (Value.string (foldR { neg := false, n := bs [], d := bs [1] } l).fst.n),
                        SV.val (Value.string (foldR { neg := false, n := bs [], d := bs [1] } l).fst.d)],
                    SV.val (Value.int IntKind.i64 (foldR { neg := false, n := bs [], d := bs [1] } l).snd)]))
        else none
      else
        some
          (OutE.ret
            (SV.tup
              [SV.agg [SV.val (Value.bool false), SV.val (Value.string (bs [])), SV.val (Value.string (bs []))],
                SV.val (Value.int IntKind.i64 70)]))
    else none := by kernel_rfl
set_option maxRecDepth 100000 in
theorem T_rsum (l : List ratT.den) : sxE Try.prog (rsL l) r7Con.p 60 21 [.dsl ratT l] =
    bif
        eqS
          {
            t :=
              [SV.dsl ratT l, SV.any, SV.ptr 0 0, SV.any, SV.val (Value.int IntKind.i64 0), SV.any, SV.any, SV.any, SV.any,
                SV.any, SV.any, SV.any, SV.any, SV.any, SV.any, SV.any, SV.any, SV.any, SV.any, SV.any, SV.any, SV.any,
                SV.any, SV.any, SV.any, SV.any, SV.any, SV.any, SV.any, SV.any, SV.any, SV.any, SV.any, SV.any, SV.any,
                SV.any, SV.any, SV.any, SV.any, SV.any, SV.any, SV.any],
            m :=
              [Blk.cells
                  [SV.val (Value.bool false), SV.val (Value.string (bs [])), SV.val (Value.string (bs []))]
                  23 true],
            d := [] }
          (rsAS l 0) then
      bif l.all okR then
        bif
            eqS
              {
                t :=
                  [SV.dsl ratT l, SV.any, SV.ptr 0 0, SV.any, SV.any, SV.ptr (0 + 1) 0, SV.any,
                    SV.val (Value.int IntKind.i64 0), SV.any, SV.any, SV.any, SV.any, SV.any, SV.any, SV.any, SV.any,
                    SV.any, SV.any, SV.any, SV.any, SV.any, SV.any, SV.any, SV.any, SV.any, SV.any, SV.any, SV.any, SV.any,
                    SV.any, SV.any, SV.any, SV.any, SV.any, SV.any, SV.any, SV.any, SV.any, SV.any, SV.any, SV.any, SV.any],
                m :=
                  [Blk.cells [SV.val (Value.bool false), SV.val (Value.string (bs [])), SV.val (Value.string (bs []))] 23
                      true,
                    Blk.cells
                      [SV.val (Value.bool false), SV.val (Value.string (bs [])),
                        SV.val (Value.string (bs [1]))]
                      23 true],
                d := [] }
              (rsBS l { neg := false, n := bs [], d := bs [1] } 0) then
          bif (foldR { neg := false, n := bs [], d := bs [1] } l).snd == 0 then
            some
              (OutE.ret
                (SV.tup
                  [SV.agg
                      [SV.val (Value.bool ((foldR { neg := false, n := bs [], d := bs [1] } l).fst, 0).fst.neg),
                        SV.val (Value.string ((foldR { neg := false, n := bs [], d := bs [1] } l).fst, 0).fst.n),
                        SV.val (Value.string ((foldR { neg := false, n := bs [], d := bs [1] } l).fst, 0).fst.d)],
                    SV.val (Value.int IntKind.i64 0)]))
          else
            some
              (OutE.ret
                (SV.tup
                  [SV.agg
                      [SV.val (Value.bool (foldR { neg := false, n := bs [], d := bs [1] } l).fst.neg),
                        SV.val (Value.string (foldR { neg := false, n := bs [], d := bs [1] } l).fst.n),
                        SV.val (Value.string (foldR { neg := false, n := bs [], d := bs [1] } l).fst.d)],
                    SV.val (Value.int IntKind.i64 (foldR { neg := false, n := bs [], d := bs [1] } l).snd)]))
        else none
      else
        some
          (OutE.ret
            (SV.tup
              [SV.agg [SV.val (Value.bool false), SV.val (Value.string (bs [])), SV.val (Value.string (bs []))],
                SV.val (Value.int IntKind.i64 70)]))
    else none := by kernel_rfl

end Go.Proofs.Ytmcejefeloljiaa

/-
  What the sum of a list of ratios comes to.
-/
namespace Go.Proofs.Ytmcejefeloljiaa
set_option linter.unusedSimpArgs false
set_option linter.unusedVariables false
open Go.RowKit Nm Go.SX

theorem over_sz (s : Sg) (d : ByteArray) {r : Rt} (h : overO s d = some r) : szR r = true := by
  unfold overO at h
  rw [Option.map_eq_some_iff] at h
  obtain ⟨g, _, rfl⟩ := h
  unfold szR overR
  rw [sz256 (divF_size _ _), sz256 (divF_size _ _)]
  rfl
theorem resO_sz {o : Option Rt} (h : ∀ r, o = some r → szR r = true) : szR (resO o).1 = true := by
  cases o with
  | none => rfl
  | some r => exact h r rfl
theorem addO_sz (a b : Rt) {r : Rt} (h : addO a b = some r) : szR r = true := by
  unfold addO at h
  simp only [Option.bind_eq_some_iff] at h
  obtain ⟨_, _, _, _, _, _, _, _, h⟩ := h
  exact over_sz _ _ h
theorem add_sz (a b : Rt) : szR (addR a b).1 = true := by
  unfold addR both
  split
  · split
    · exact resO_sz fun r h => addO_sz a b h
    · rfl
  · rfl
/-- what memory says of a list of ratios -/
def wfL (l : List ratT.den) : Prop := l.length ≤ maxLen ∧ ∀ (k : Nat) (h : k < l.length), (szB l[k].2.1 && szB l[k].2.2.1) = true
theorem su_at : (loopsAt Try.prog 20 2).length = 1 ∧ (loopsAt Try.prog 20 10).length = 1 := ⟨by kernel_rfl, by kernel_rfl⟩
theorem rs_at : (loopsAt Try.prog 21 2).length = 1 ∧ (loopsAt Try.prog 21 9).length = 1 := ⟨by kernel_rfl, by kernel_rfl⟩
theorem suA_loop (l : List ratT.den) (hw : wfL l) (hin : InF Try.prog 20 (loopAt Try.prog 20 2)) (k : Nat) :
    Runs Try.prog Rd.no 0 (.loop (loopAt Try.prog 20 2)) (suAS l k) (suAF l ((l.drop k).all okR)).1 (suAF l ((l.drop k).all okR)).2 := by
  refine loop_rule (suAS l) (fun k => suAF l ((l.drop k).all okR)) (fun k => l.length - k) (fun k => ?_) k
  have sound : ∀ e s', sxB Try.prog noL r7Con.p 60 (20, 0) (loopAt Try.prog 20 2) (suAS l k) suAN = some (e, s') → ∃ X, Runs Try.prog Rd.no 0 (loopAt Try.prog 20 2) (suAS l k) e X ∧ Ren 0 X s' :=
    fun e s' h => sxB_sound (f := (20, 0)) pOk (ECon.ok r7Con_ok) noL_ok hin h
  rw [T_suA] at sound
  by_cases hk : k < l.length
  · have hk' : decide ((k : Int) < (l.length : Int)) = true := decide_eq_true (by omega)
    simp only [hk', inB_nat hk, getD_get hk, wrapN (Nat.le_trans hk hw.1), hw.2 k hk, cond_true] at sound
    rw [List.drop_eq_getElem_cons hk, List.all_cons]
    by_cases h : checkR (toRt l[k]) = 0
    · left
      have h1 : okR l[k] = true := by unfold okR; rw [h]; rfl
      have h2 : checkR ⟨l[k].1, l[k].2.1, l[k].2.2.1⟩ = 0 := h
      rw [h2] at sound
      obtain ⟨X, g1, g2⟩ := sound _ _ rfl
      exact ⟨X, k + 1, g1, g2, by omega, by rw [h1, Bool.true_and]⟩
    · right
      have h1 : okR l[k] = false := by unfold okR; rw [chk70 h]; rfl
      have h2 : checkR ⟨l[k].1, l[k].2.1, l[k].2.2.1⟩ = 70 := chk70 h
      rw [h2] at sound
      obtain ⟨X, g1, g2⟩ := sound _ _ rfl
      rw [h1]
      exact ⟨X, by simp [suAF], rfl, g1, g2⟩
  · right
    have hk' : decide ((k : Int) < (l.length : Int)) = false := decide_eq_false (by omega)
    rw [hk'] at sound
    obtain ⟨X, g1, g2⟩ := sound _ _ rfl
    rw [List.drop_eq_nil_of_le (by omega)]
    exact ⟨X, by simp [suAF], rfl, g1, g2⟩
theorem suB_loop (l : List ratT.den) (hw : wfL l) (hin : InF Try.prog 20 (loopAt Try.prog 20 10)) (p : { p : Rt × Nat // szR p.1 = true }) :
    Runs Try.prog Rd.no 0 (.loop (loopAt Try.prog 20 10)) (suBS l p.1.1 p.1.2) (suBF (foldR p.1.1 (l.drop p.1.2))).1 (suBF (foldR p.1.1 (l.drop p.1.2))).2 := by
  refine loop_rule (fun p : { p : Rt × Nat // szR p.1 = true } => suBS l p.1.1 p.1.2) (fun p => suBF (foldR p.1.1 (l.drop p.1.2))) (fun p => l.length - p.1.2) (fun p => ?_) p
  obtain ⟨⟨s, k⟩, hs⟩ := p
  have hs' : (szB s.n && szB s.d) = true := hs
  have sound : ∀ e s', sxB Try.prog noL r7Con.p 60 (20, 0) (loopAt Try.prog 20 10) (suBS l s k) suBN = some (e, s') → ∃ X, Runs Try.prog Rd.no 0 (loopAt Try.prog 20 10) (suBS l s k) e X ∧ Ren 0 X s' :=
    fun e s' h => sxB_sound (f := (20, 0)) pOk (ECon.ok r7Con_ok) noL_ok hin h
  rw [T_suB] at sound
  by_cases hk : k < l.length
  · have hk' : decide ((k : Int) < (l.length : Int)) = true := decide_eq_true (by omega)
    simp only [hk', inB_nat hk, getD_get hk, wrapN (Nat.le_trans hk hw.1), hw.2 k hk, hs', Bool.and_self, cond_true] at sound
    simp only [List.drop_eq_getElem_cons hk, foldR]
    by_cases h : (addR s (toRt l[k])).2 = 0
    · left
      have h1 : ((addR s (toRt l[k])).2 != 0) = false := by rw [h]; rfl
      have h2 : ((addR s ⟨l[k].1, l[k].2.1, l[k].2.2.1⟩).2 != 0) = false := h1
      rw [h2] at sound
      obtain ⟨X, g1, g2⟩ := sound _ _ rfl
      exact ⟨X, ⟨((addR s (toRt l[k])).1, k + 1), add_sz _ _⟩, g1, g2, by show l.length - (k + 1) < l.length - k; omega, by rw [h1]; rfl⟩
    · right
      have h1 : ((addR s (toRt l[k])).2 != 0) = true := by simpa using h
      have h2 : ((addR s ⟨l[k].1, l[k].2.1, l[k].2.2.1⟩).2 != 0) = true := h1
      have h3 : ((addR s (toRt l[k])).2 == 0) = false := by simpa using h
      rw [h2] at sound
      obtain ⟨X, g1, g2⟩ := sound _ _ rfl
      rw [h1]
      simp only [cond_true]
      unfold suBF
      simp only [h3, cond_false]
      exact ⟨X, by simp, rfl, g1, g2⟩
  · right
    have hk' : decide ((k : Int) < (l.length : Int)) = false := decide_eq_false (by omega)
    rw [hk'] at sound
    obtain ⟨X, g1, g2⟩ := sound _ _ rfl
    simp only [List.drop_eq_nil_of_le (show l.length ≤ k by omega), foldR]
    exact ⟨X, by simp [suBF], rfl, g1, g2⟩
theorem rsA_loop (l : List ratT.den) (hw : wfL l) (hin : InF Try.prog 21 (loopAt Try.prog 21 2)) (k : Nat) :
    Runs Try.prog Rd.no 0 (.loop (loopAt Try.prog 21 2)) (rsAS l k) (rsAF l ((l.drop k).all okR)).1 (rsAF l ((l.drop k).all okR)).2 := by
  refine loop_rule (rsAS l) (fun k => rsAF l ((l.drop k).all okR)) (fun k => l.length - k) (fun k => ?_) k
  have sound : ∀ e s', sxB Try.prog noL r7Con.p 60 (21, 0) (loopAt Try.prog 21 2) (rsAS l k) rsAN = some (e, s') → ∃ X, Runs Try.prog Rd.no 0 (loopAt Try.prog 21 2) (rsAS l k) e X ∧ Ren 0 X s' :=
    fun e s' h => sxB_sound (f := (21, 0)) pOk (ECon.ok r7Con_ok) noL_ok hin h
  rw [T_rsA] at sound
  by_cases hk : k < l.length
  · have hk' : decide ((k : Int) < (l.length : Int)) = true := decide_eq_true (by omega)
    simp only [hk', inB_nat hk, getD_get hk, wrapN (Nat.le_trans hk hw.1), hw.2 k hk, cond_true] at sound
    rw [List.drop_eq_getElem_cons hk, List.all_cons]
    by_cases h : checkR (toRt l[k]) = 0
    · left
      have h1 : okR l[k] = true := by unfold okR; rw [h]; rfl
      have h2 : checkR ⟨l[k].1, l[k].2.1, l[k].2.2.1⟩ = 0 := h
      rw [h2] at sound
      obtain ⟨X, g1, g2⟩ := sound _ _ rfl
      exact ⟨X, k + 1, g1, g2, by omega, by rw [h1, Bool.true_and]⟩
    · right
      have h1 : okR l[k] = false := by unfold okR; rw [chk70 h]; rfl
      have h2 : checkR ⟨l[k].1, l[k].2.1, l[k].2.2.1⟩ = 70 := chk70 h
      rw [h2] at sound
      obtain ⟨X, g1, g2⟩ := sound _ _ rfl
      rw [h1]
      exact ⟨X, by simp [rsAF], rfl, g1, g2⟩
  · right
    have hk' : decide ((k : Int) < (l.length : Int)) = false := decide_eq_false (by omega)
    rw [hk'] at sound
    obtain ⟨X, g1, g2⟩ := sound _ _ rfl
    rw [List.drop_eq_nil_of_le (by omega)]
    exact ⟨X, by simp [rsAF], rfl, g1, g2⟩
theorem rsB_loop (l : List ratT.den) (hw : wfL l) (hin : InF Try.prog 21 (loopAt Try.prog 21 9)) (p : { p : Rt × Nat // szR p.1 = true }) :
    Runs Try.prog Rd.no 0 (.loop (loopAt Try.prog 21 9)) (rsBS l p.1.1 p.1.2) (rsBF (foldR p.1.1 (l.drop p.1.2))).1 (rsBF (foldR p.1.1 (l.drop p.1.2))).2 := by
  refine loop_rule (fun p : { p : Rt × Nat // szR p.1 = true } => rsBS l p.1.1 p.1.2) (fun p => rsBF (foldR p.1.1 (l.drop p.1.2))) (fun p => l.length - p.1.2) (fun p => ?_) p
  obtain ⟨⟨s, k⟩, hs⟩ := p
  have hs' : (szB s.n && szB s.d) = true := hs
  have sound : ∀ e s', sxB Try.prog noL r7Con.p 60 (21, 0) (loopAt Try.prog 21 9) (rsBS l s k) rsBN = some (e, s') → ∃ X, Runs Try.prog Rd.no 0 (loopAt Try.prog 21 9) (rsBS l s k) e X ∧ Ren 0 X s' :=
    fun e s' h => sxB_sound (f := (21, 0)) pOk (ECon.ok r7Con_ok) noL_ok hin h
  rw [T_rsB] at sound
  by_cases hk : k < l.length
  · have hk' : decide ((k : Int) < (l.length : Int)) = true := decide_eq_true (by omega)
    simp only [hk', inB_nat hk, getD_get hk, wrapN (Nat.le_trans hk hw.1), hw.2 k hk, hs', Bool.and_self, cond_true] at sound
    simp only [List.drop_eq_getElem_cons hk, foldR]
    by_cases h : (addR s (toRt l[k])).2 = 0
    · left
      have h1 : ((addR s (toRt l[k])).2 != 0) = false := by rw [h]; rfl
      have h2 : ((addR s ⟨l[k].1, l[k].2.1, l[k].2.2.1⟩).2 != 0) = false := h1
      rw [h2] at sound
      obtain ⟨X, g1, g2⟩ := sound _ _ rfl
      exact ⟨X, ⟨((addR s (toRt l[k])).1, k + 1), add_sz _ _⟩, g1, g2, by show l.length - (k + 1) < l.length - k; omega, by rw [h1]; rfl⟩
    · right
      have h1 : ((addR s (toRt l[k])).2 != 0) = true := by simpa using h
      have h2 : ((addR s ⟨l[k].1, l[k].2.1, l[k].2.2.1⟩).2 != 0) = true := h1
      have h3 : ((addR s (toRt l[k])).2 == 0) = false := by simpa using h
      rw [h2] at sound
      obtain ⟨X, g1, g2⟩ := sound _ _ rfl
      rw [h1]
      simp only [cond_true]
      unfold rsBF
      simp only [h3, cond_false]
      exact ⟨X, by simp, rfl, g1, g2⟩
  · right
    have hk' : decide ((k : Int) < (l.length : Int)) = false := decide_eq_false (by omega)
    rw [hk'] at sound
    obtain ⟨X, g1, g2⟩ := sound _ _ rfl
    simp only [List.drop_eq_nil_of_le (show l.length ≤ k by omega), foldR]
    exact ⟨X, by simp [rsBF], rfl, g1, g2⟩
theorem suL_ok (l : List ratT.den) (hw : wfL l) : LoopsOk Try.prog Rd.no (suL l) := by
  refine oneL_ok su_at.1 (oneL_ok su_at.2 noL_ok fun hin e s1 h => ?_) fun hin e s1 h => ?_
  · have h1 := suB_loop l hw hin ⟨(⟨false, bs [], bs [1]⟩, 0), rfl⟩
    simp only [List.drop_zero] at h1
    generalize foldR ⟨false, bs [], bs [1]⟩ l = q at h h1
    obtain ⟨q, z⟩ := q
    have h2 : suBF (q, z) = (e, s1) := by
      unfold R3.res at h
      by_cases hz : z = 0
      · subst hz
        exact Option.some.inj h
      · have hb : (z == 0) = false := by simpa using hz
        unfold suBF
        simp only [hb] at h ⊢
        exact Option.some.inj h
    rw [h2] at h1
    exact h1
  · have h1 := suA_loop l hw hin 0
    rw [List.drop_zero] at h1
    have h2 : suAF l (l.all okR) = (e, s1) := by
      unfold R3.res at h
      cases hb : l.all okR <;> rw [hb] at h <;> exact Option.some.inj h
    rw [h2] at h1
    exact h1
theorem sum_plain (l : List ratT.den) (hw : wfL l) : HasBody Try.prog 20 ∧ DPlain Try.prog 20 [.dsl ratT l] (.ret (.tup [.agg [.val (.bool (sumF l).1.neg), .val (.string (sumF l).1.n), .val (.string (sumF l).1.d)], .val (.int .i64 (sumF l).2)])) := by
  refine sxE_sound pOk (ECon.ok r7Con_ok) (suL_ok l hw) 60 ?_
  rw [T_sum]
  rw [eqS_cond]
  · unfold sumF
    cases l.all okR with
    | false => rfl
    | true =>
      simp only [cond_true]
      rw [eqS_cond]
      · generalize foldR ⟨false, bs [], bs [1]⟩ l = q
        obtain ⟨q, z⟩ := q
        by_cases hz : z = 0
        · subst hz
          rfl
        · have hb : (z == 0) = false := by simpa using hz
          simp only [hb, cond_false]
      · kernel_rfl
  · kernel_rfl
theorem rsL_ok (l : List ratT.den) (hw : wfL l) : LoopsOk Try.prog Rd.no (rsL l) := by
  refine oneL_ok rs_at.1 (oneL_ok rs_at.2 noL_ok fun hin e s1 h => ?_) fun hin e s1 h => ?_
  · have h1 := rsB_loop l hw hin ⟨(⟨false, bs [], bs [1]⟩, 0), rfl⟩
    simp only [List.drop_zero] at h1
    generalize foldR ⟨false, bs [], bs [1]⟩ l = q at h h1
    obtain ⟨q, z⟩ := q
    have h2 : rsBF (q, z) = (e, s1) := by
      unfold R3.res at h
      by_cases hz : z = 0
      · subst hz
        exact Option.some.inj h
      · have hb : (z == 0) = false := by simpa using hz
        unfold rsBF
        simp only [hb] at h ⊢
        exact Option.some.inj h
    rw [h2] at h1
    exact h1
  · have h1 := rsA_loop l hw hin 0
    rw [List.drop_zero] at h1
    have h2 : rsAF l (l.all okR) = (e, s1) := by
      unfold R3.res at h
      cases hb : l.all okR <;> rw [hb] at h <;> exact Option.some.inj h
    rw [h2] at h1
    exact h1
theorem rsum_plain (l : List ratT.den) (hw : wfL l) : HasBody Try.prog 21 ∧ DPlain Try.prog 21 [.dsl ratT l] (.ret (.tup [.agg [.val (.bool (sumF l).1.neg), .val (.string (sumF l).1.n), .val (.string (sumF l).1.d)], .val (.int .i64 (sumF l).2)])) := by
  refine sxE_sound pOk (ECon.ok r7Con_ok) (rsL_ok l hw) 60 ?_
  rw [T_rsum]
  rw [eqS_cond]
  · unfold sumF
    cases l.all okR with
    | false => rfl
    | true =>
      simp only [cond_true]
      rw [eqS_cond]
      · generalize foldR ⟨false, bs [], bs [1]⟩ l = q
        obtain ⟨q, z⟩ := q
        by_cases hz : z = 0
        · subst hz
          rfl
        · have hb : (z == 0) = false := by simpa using hz
          simp only [hb, cond_false]
      · kernel_rfl
  · kernel_rfl

end Go.Proofs.Ytmcejefeloljiaa

/-
  The table for the law of New, Check, Floor, Ceil and Sum.
-/
namespace Go.Proofs.Ytmcejefeloljiaa
set_option linter.unusedSimpArgs false
set_option linter.unusedVariables false
open Go.RowKit Nm Go.SX

/-- a list of ratios is as memory holds it -/
noncomputable def wfB (l : List ratT.den) : Bool := @decide (wfL l) (Classical.propDecidable _)
theorem wfB_iff {l : List ratT.den} : wfB l = true ↔ wfL l := by unfold wfB; rw [@decide_eq_true_iff]
def asL (t : Ty) (l : List t.den) : Option (List ratT.den) := if h : t = ratT then some (h ▸ l) else none
theorem asL_eq {t : Ty} {l : List t.den} {l' : List ratT.den} (h : asL t l = some l') : SV.dsl t l = .dsl ratT l' := by
  unfold asL at h
  split at h
  · rename_i e; subst e; cases h; rfl
  · cases h
noncomputable def sumC (vs : List SV) : R3 OutE :=
  match vs with
  | [.dsl t l] => match asL t l with
    | some l => .need (wfB l) (.ok (.ret (.tup [.agg [.val (.bool (sumF l).1.neg), .val (.string (sumF l).1.n), .val (.string (sumF l).1.d)], .val (.int .i64 (sumF l).2)])))
    | none => .no
  | _ => .no
noncomputable def n7Con : PCon := fun f =>
  match f with
  | 13 => some fun vs => match vs with
    | [.val (.int .i64 most), .dsl t l] => match asL t l with
      | some l => .need (wfB l) (.ok (.ret (.val (.bool (l.all (few1 most))))))
      | none => .no
    | _ => .no
  | 20 => some sumC
  | 21 => some sumC
  | f => r7Con.p f
theorem n7Con_ok : PConOk Try.prog Rd.no n7Con := by
  intro f h hf
  unfold n7Con at hf
  split at hf
  · cases hf
    refine ⟨(few_plain 0 [] (Nat.zero_le _)).1, fun vs e he => ?_⟩
    simp only at he
    split at he
    · split at he
      · rename_i l' hl
        obtain ⟨h1, h2⟩ := R3.need_some he
        cases h2
        rw [asL_eq hl]
        exact (few_plain _ _ (wfB_iff.1 h1).1).2
      · cases he
    · cases he
  · cases hf
    refine ⟨(sum_plain [] ⟨Nat.zero_le _, fun k h => absurd h (Nat.not_lt_zero _)⟩).1, fun vs e he => ?_⟩
    unfold sumC at he
    split at he
    · split at he
      · rename_i l' hl
        obtain ⟨h1, h2⟩ := R3.need_some he
        cases h2
        rw [asL_eq hl]
        exact (sum_plain _ (wfB_iff.1 h1)).2
      · cases he
    · cases he
  · cases hf
    refine ⟨(rsum_plain [] ⟨Nat.zero_le _, fun k h => absurd h (Nat.not_lt_zero _)⟩).1, fun vs e he => ?_⟩
    unfold sumC at he
    split at he
    · split at he
      · rename_i l' hl
        obtain ⟨h1, h2⟩ := R3.need_some he
        cases h2
        rw [asL_eq hl]
        exact (rsum_plain _ (wfB_iff.1 h1)).2
      · cases he
    · cases he
  · exact ECon.ok (rd := Rd.no) r7Con_ok _ _ hf

end Go.Proofs.Ytmcejefeloljiaa

/-
  What the law of New, Check, Floor, Ceil and Sum comes to.
-/
namespace Go.Proofs.Ytmcejefeloljiaa
open Go.RowKit Nm Go.SX

set_option maxRecDepth 100000 in
theorem T_newspec (n d : Int) (a : ratT.den) (l : List ratT.den) : sxE Try.prog noL n7Con 60 3 [.val (.int .i64 n), .val (.int .i64 d), svA true ratT a, .dsl ratT l] =
    bif wfB ([(a.fst, a.snd.fst, a.snd.snd.fst, ())]) then
      bif !([(a.fst, a.snd.fst, a.snd.snd.fst, ())]).all (few1 300) then some (OutE.ret (SV.val (Value.bool true)))
      else
        bif wfB (l) then
          bif !(l).all (few1 60) then some (OutE.ret (SV.val (Value.bool true)))
          else
            bif decide ((↑l.length : Int) > 6) then some (OutE.ret (SV.val (Value.bool true)))
            else
              bif inI n && inI d then
                bif inI n && inI d then
                  bif szB a.snd.fst && szB a.snd.snd.fst then
                    bif szB a.snd.fst && szB a.snd.snd.fst then
                      bif szB a.snd.fst && szB a.snd.snd.fst then
                        bif szB a.snd.fst && szB a.snd.snd.fst then
                          bif wfB (l) then
                            bif wfB (l) then
                              bif
                                  (newR n d).fst.neg == (newR n d).fst.neg &&
                                    ((newR n d).fst.n == (newR n d).fst.n &&
                                      ((newR n d).fst.d == (newR n d).fst.d && true)) then
                                bif (newR n d).snd == (newR n d).snd then
                                  bif szB a.snd.fst && szB a.snd.snd.fst then
                                    bif szB a.snd.fst && szB a.snd.snd.fst then
                                      bif
                                          checkR { neg := a.fst, n := a.snd.fst, d := a.snd.snd.fst } ==
                                            checkR { neg := a.fst, n := a.snd.fst, d := a.snd.snd.fst } then
                                        bif
                                            (floorR { neg := a.fst, n := a.snd.fst, d := a.snd.snd.fst }).fst ==
                                              (floorR { neg := a.fst, n := a.snd.fst, d := a.snd.snd.fst }).fst then
                                          bif
                                              (floorR { neg := a.fst, n := a.snd.fst, d := a.snd.snd.fst }).snd ==
                                                (floorR { neg := a.fst, n := a.snd.fst, d := a.snd.snd.fst }).snd then
                                            bif
                                                (ceilR { neg := a.fst, n := a.snd.fst, d := a.snd.snd.fst }).fst ==
                                                  (ceilR { neg := a.fst, n := a.snd.fst, d := a.snd.snd.fst }).fst then
                                              bif
                                                  (ceilR { neg := a.fst, n := a.snd.fst, d := a.snd.snd.fst }).snd ==
                                                    (ceilR { neg := a.fst, n := a.snd.fst, d := a.snd.snd.fst }).snd then
                                                bif
                                                    (sumF (l)).fst.neg == (sumF (l)).fst.neg &&
                                                      ((sumF (l)).fst.n == (sumF (l)).fst.n &&
                                                        ((sumF (l)).fst.d == (sumF (l)).fst.d && true)) then
                                                  some
                                                    (OutE.ret
                                                      (SV.val (Value.bool ((sumF (l)).snd == (sumF (l)).snd))))
                                                else some (OutE.ret (SV.val (Value.bool false)))
                                              else some (OutE.ret (SV.val (Value.bool false)))
                                            else some (OutE.ret (SV.val (Value.bool false)))
                                          else some (OutE.ret (SV.val (Value.bool false)))
                                        else some (OutE.ret (SV.val (Value.bool false)))
                                      else some (OutE.ret (SV.val (Value.bool false)))
                                    else none
                                  else none
                                else some (OutE.ret (SV.val (Value.bool false)))
                              else some (OutE.ret (SV.val (Value.bool false)))
                            else none
                          else none
                        else none
                      else none
                    else none
                  else none
                else none
              else none
        else none
    else none := by kernel_rfl

end Go.Proofs.Ytmcejefeloljiaa

/-
  The law of New, Check, Floor, Ceil and Sum.
-/
namespace Go.Proofs.Ytmcejefeloljiaa
set_option linter.unusedSimpArgs false
set_option linter.unusedVariables false
open Go.RowKit Nm Go.SX

theorem newspec_end (n d : Int) (a : ratT.den) (l : List ratT.den) (hn : inI n = true) (hd : inI d = true) (ha : (szB a.2.1 && szB a.2.2.1) = true) (hl : wfL l) :
    sxE Try.prog noL n7Con 60 3 [.val (.int .i64 n), .val (.int .i64 d), svA true ratT a, .dsl ratT l] = some (.ret (.val (.bool true))) := by
  rw [T_newspec]
  have h1 : wfB [(a.1, a.2.1, a.2.2.1, ())] = true := wfB_iff.2 ⟨by show 1 ≤ maxLen; unfold maxLen; omega, fun k hk => by
    have h0 : k = 0 := by
      have : k < 1 := hk
      omega
    subst h0
    exact ha⟩
  have h2 := wfB_iff.2 hl
  have hr := rtT (newR n d).1
  have hs := rtT (sumF l).1
  have hb : ∀ x : Int, (x == x) = true := fun x => by simp
  simp only [h1, h2, hn, hd, ha, hr, hs, hb, Bool.and_self, cond_true]
  cases List.all [(a.1, a.2.1, a.2.2.1, ())] (few1 300) <;> cases l.all (few1 60) <;> cases decide ((l.length : Int) > 6) <;> rfl
theorem newspec_plain (n d : Int) (a : ratT.den) (l : List ratT.den) (hn : inI n = true) (hd : inI d = true) (ha : (szB a.2.1 && szB a.2.2.1) = true) (hl : wfL l) :
    DPlain Try.prog 3 [.val (.int .i64 n), .val (.int .i64 d), svA true ratT a, .dsl ratT l] (.ret (.val (.bool true))) :=
  (sxE_sound pOk n7Con_ok noL_ok 60 (newspec_end n d a l hn hd ha hl)).2
theorem inI_wf {n : Int} (h : Wf (.int .i64) n) : inI n = true := by
  have := bounds_i64 h
  unfold inI
  rw [Bool.and_eq_true, decide_eq_true_eq, decide_eq_true_eq]
  exact this
theorem wfL_wf {l : List ratT.den} (h : Wf (.sl ratT) l) : wfL l := ⟨h.1, fun k hk => by
  have := h.2 k l[k] (List.getElem?_eq_getElem hk)
  rw [szB_iff.2 this.2.1, szB_iff.2 this.2.2.1]
  rfl⟩
theorem ratiosNewSpec_law (n d : Int) (a : ratT.den) (l : List ratT.den) (hn : Wf (.int .i64) n) (hd : Wf (.int .i64) d) (ha : Wf ratT a) (hl : Wf (.sl ratT) l) :
    DPlain Try.prog 3 [svA false (.int .i64) n, svA false (.int .i64) d, svA true ratT a, svA false (.sl ratT) l] (.ret (.val (.bool true))) :=
  newspec_plain n d a l (inI_wf hn) (inI_wf hd) (by rw [szB_iff.2 ha.2.1, szB_iff.2 ha.2.2.1]; rfl) (wfL_wf hl)

end Go.Proofs.Ytmcejefeloljiaa

/-
  Units: the plain type, and where a name is found.
-/
namespace Go.Proofs.Ytmcejefeloljiaa
open Go.RowKit Nm Go.SX

/-- a unit as a plain value: its name, what it is made of, N, D, its base, its scale -/
@[reducible] def unitT : Ty := .pair .str (.pair .str (.pair (.int .i64) (.pair (.int .i64) (.pair (.int .i64) (.pair ratT .unit)))))
def eqN (a b : ByteArray) : Bool := decide (a = b)
theorem eqLN (s t : ByteArray) : (s.toList == t.toList) = eqN s t := eqL s t
theorem eqBN (s t : ByteArray) : (s == t) = eqN s t := beqB s t
def findO (name : ByteArray) : List unitT.den → Nat → Option Nat
  | [], _ => none
  | u :: l, k => bif eqN u.1 name then some k else findO name l (k + 1)
theorem findO_cons (name : ByteArray) (u : unitT.den) (l : List unitT.den) (k : Nat) : findO name (u :: l) k = bif eqN u.1 name then some k else findO name l (k + 1) := rfl
def findF (name : ByteArray) (l : List unitT.den) : Int := match findO name l 0 with | some k => (k : Int) | none => -1
def fiS (name : ByteArray) (l : List unitT.den) (k : Nat) : St := ⟨[.dsl unitT l, .clo (.func 75) [] [.ptr 0 0]] ++ anys 5 ++ [.val (.int .i64 l.length), .val (.int .i64 k)] ++ anys 10, [.cells [.val (.string name)] 9 true], []⟩
def fiN : Ex → Option (List Root × List Nat)
  | .normal => some ([.n 0], [2, 3, 4, 5, 6, 9, 10, 11, 12, 13, 14, 15, 16, 17, 18])
  | .ret => some ([.n 0], [0, 1, 2, 3, 5, 6, 7, 8, 9, 10, 11, 12, 13, 14, 15, 16, 17, 18])
  | _ => some ([.n 0], [0, 1, 2, 3, 4, 5, 6, 7, 8, 9, 10, 11, 12, 13, 14, 15, 16, 17, 18])
def fiK : List Nat := [2, 3, 4, 5, 6, 9, 10, 11, 12, 13, 14, 15, 16, 17, 18]
def fiF (name : ByteArray) (o : Option Nat) : Ex × St := match o with
  | some k => (.ret, ⟨anys 4 ++ [.val (.int .i64 k)] ++ anys 14, [.cells [.val (.string name)] 9 true], []⟩)
  | none => (.exit 0, ⟨anys 19, [.cells [.val (.string name)] 9 true], []⟩)
noncomputable def fiL (name : ByteArray) (l : List unitT.den) : Loops :=
  oneL 1 74 2 [.n 0] fiK (fiS name l 0) (.br (findO name l 0).isSome (.ok (fiF name (some ((findO name l 0).getD 0)))) (.ok (fiF name none))) noL

end Go.Proofs.Ytmcejefeloljiaa

/-
  What the search of a name comes to.
-/
namespace Go.Proofs.Ytmcejefeloljiaa
open Go.RowKit Nm Go.SX

set_option maxRecDepth 100000 in
theorem T_fi (name : ByteArray) (l : List unitT.den) (k : Nat) : sxB Try.prog noL r7Con.p 60 (74, 1) (loopAt Try.prog 74 2) (fiS name l k) fiN =
    bif decide ((↑k : Int) < (↑l.length : Int)) then
      bif inB (↑k : Int) l.length then
        bif ByteArray.toList (l.getD (↑k : Int).toNat unitT.dflt).fst == name.toList then
          some
            (Ex.ret,
              {
                t :=
                  [SV.any, SV.any, SV.any, SV.any, SV.val (Value.int IntKind.i64 (↑k : Int)), SV.any, SV.any, SV.any,
                    SV.any, SV.any, SV.any, SV.any, SV.any, SV.any, SV.any, SV.any, SV.any, SV.any, SV.any],
                m := [Blk.cells [SV.val (Value.string name)] 9 true], d := [] })
        else
          some
            (Ex.normal,
              {
                t :=
                  [SV.dsl
                      (Ty.str.pair
                        (Ty.str.pair
                          ((Ty.int IntKind.i64).pair
                            ((Ty.int IntKind.i64).pair
                              ((Ty.int IntKind.i64).pair
                                ((Ty.bool.pair (Ty.str.pair (Ty.str.pair Ty.unit))).pair Ty.unit))))))
                      l,
                    SV.clo (Fn.func 75) [] [SV.ptr 0 0], SV.any, SV.any, SV.any, SV.any, SV.any,
                    SV.val (Value.int IntKind.i64 (↑l.length : Int)),
                    SV.val (Value.int IntKind.i64 (IntKind.i64.wrap ((↑k : Int) + 1))), SV.any, SV.any, SV.any, SV.any,
                    SV.any, SV.any, SV.any, SV.any, SV.any, SV.any],
                m := [Blk.cells [SV.val (Value.string name)] 9 true], d := [] })
      else none
    else
      some
        (Ex.exit 0,
          {
            t :=
              [SV.any, SV.any, SV.any, SV.any, SV.any, SV.any, SV.any, SV.any, SV.any, SV.any, SV.any, SV.any, SV.any,
                SV.any, SV.any, SV.any, SV.any, SV.any, SV.any],
            m := [Blk.cells [SV.val (Value.string name)] 9 true], d := [] }) := by kernel_rfl
set_option maxRecDepth 100000 in
theorem T_find (name : ByteArray) (l : List unitT.den) : sxE Try.prog (fiL name l) r7Con.p 60 73 [.val (.string name), .dpt (.sl unitT) l 0] =
    bif
        eqS
          {
            t :=
              [SV.dsl
                  (Ty.str.pair
                    (Ty.str.pair
                      ((Ty.int IntKind.i64).pair
                        ((Ty.int IntKind.i64).pair
                          ((Ty.int IntKind.i64).pair ((Ty.bool.pair (Ty.str.pair (Ty.str.pair Ty.unit))).pair Ty.unit))))))
                  l,
                SV.clo (Fn.func 75) [] [SV.ptr 0 0], SV.any, SV.any, SV.any, SV.any, SV.any,
                SV.val (Value.int IntKind.i64 (↑l.length : Int)), SV.val (Value.int IntKind.i64 0), SV.any, SV.any, SV.any,
                SV.any, SV.any, SV.any, SV.any, SV.any, SV.any, SV.any],
            m := [Blk.cells [SV.val (Value.string name)] 9 true], d := [] }
          (fiS name l 0) then
      bif (findO name l 0).isSome then some (OutE.ret (SV.val (Value.int IntKind.i64 (↑((findO name l 0).getD 0) : Int))))
      else some (OutE.ret (SV.val (Value.int IntKind.i64 (-1))))
    else none := by kernel_rfl

end Go.Proofs.Ytmcejefeloljiaa

/-
  Units: where a name is found.
-/
namespace Go.Proofs.Ytmcejefeloljiaa
set_option linter.unusedSimpArgs false
set_option linter.unusedVariables false
open Go.RowKit Nm Go.SX

theorem fi_at : (loopsAt Try.prog 74 2).length = 1 := by kernel_rfl
theorem fi_loop (name : ByteArray) (l : List unitT.den) (hl : l.length ≤ maxLen) (hin : InF Try.prog 74 (loopAt Try.prog 74 2)) (k : Nat) :
    Runs Try.prog Rd.no 1 (.loop (loopAt Try.prog 74 2)) (fiS name l k) (fiF name (findO name (l.drop k) k)).1 (fiF name (findO name (l.drop k) k)).2 := by
  refine loop_rule (fiS name l) (fun k => fiF name (findO name (l.drop k) k)) (fun k => l.length - k) (fun k => ?_) k
  have sound : ∀ e s', sxB Try.prog noL r7Con.p 60 (74, 1) (loopAt Try.prog 74 2) (fiS name l k) fiN = some (e, s') → ∃ X, Runs Try.prog Rd.no 1 (loopAt Try.prog 74 2) (fiS name l k) e X ∧ Ren 1 X s' :=
    fun e s' h => sxB_sound (f := (74, 1)) pOk (ECon.ok r7Con_ok) noL_ok hin h
  rw [T_fi] at sound
  by_cases hk : k < l.length
  · have hk' : decide ((k : Int) < (l.length : Int)) = true := decide_eq_true (by omega)
    simp only [hk', inB_nat hk, getD_get hk, wrapN (Nat.le_trans hk hl), cond_true, eqLN] at sound
    rw [List.drop_eq_getElem_cons hk]
    rw [findO_cons]
    cases h : eqN l[k].1 name with
    | true =>
      right
      rw [h] at sound
      obtain ⟨X, g1, g2⟩ := sound _ _ rfl
      exact ⟨X, by simp [fiF], rfl, g1, g2⟩
    | false =>
      left
      rw [h] at sound
      obtain ⟨X, g1, g2⟩ := sound _ _ rfl
      exact ⟨X, k + 1, g1, g2, by omega, rfl⟩
  · right
    have hk' : decide ((k : Int) < (l.length : Int)) = false := decide_eq_false (by omega)
    rw [hk'] at sound
    obtain ⟨X, g1, g2⟩ := sound _ _ rfl
    rw [List.drop_eq_nil_of_le (by omega)]
    exact ⟨X, by simp [fiF, findO], rfl, g1, g2⟩
theorem fiL_ok (name : ByteArray) (l : List unitT.den) (hl : l.length ≤ maxLen) : LoopsOk Try.prog Rd.no (fiL name l) := by
  refine oneL_ok fi_at noL_ok fun hin e s1 h => ?_
  have h1 := fi_loop name l hl hin 0
  rw [List.drop_zero] at h1
  have h2 : fiF name (findO name l 0) = (e, s1) := by
    unfold R3.res at h
    cases hb : findO name l 0 <;> rw [hb] at h <;> exact Option.some.inj h
  rw [h2] at h1
  exact h1
theorem find_plain (name : ByteArray) (l : List unitT.den) (hl : l.length ≤ maxLen) : HasBody Try.prog 73 ∧ DPlain Try.prog 73 [.val (.string name), .dpt (.sl unitT) l 0] (.ret (.val (.int .i64 (findF name l)))) := by
  refine sxE_sound pOk (ECon.ok r7Con_ok) (fiL_ok name l hl) 60 ?_
  rw [T_find]
  rw [eqS_cond]
  · unfold findF
    cases findO name l 0 <;> rfl
  · kernel_rfl

end Go.Proofs.Ytmcejefeloljiaa

/-
  Units: the table of find, and the loops of Resolve.
-/
namespace Go.Proofs.Ytmcejefeloljiaa
set_option linter.unusedSimpArgs false
set_option linter.unusedVariables false
open Go.RowKit Nm Go.SX

def asU (t : Ty) (l : t.den) : Option (List unitT.den) := if h : t = .sl unitT then some (cast (congrArg Ty.den h) l) else none
theorem asU_eq {t : Ty} {l : t.den} {l' : List unitT.den} (h : asU t l = some l') : SV.dpt t l 0 = .dpt (.sl unitT) l' 0 := by
  unfold asU at h
  split at h
  · rename_i e; subst e; cases h; rfl
  · cases h
/-- a list's length is one that memory has -/
def lenB {α : Type} (l : List α) : Bool := decide (l.length ≤ maxLen)
def uCon : PCon := fun f =>
  match f with
  | 73 => some fun vs => match vs with
    | [.val (.string name), .dpt t l 0] => match asU t l with
      | some l => .need (lenB l) (.ok (.ret (.val (.int .i64 (findF name l)))))
      | none => .no
    | _ => .no
  | f => r7Con.p f
theorem uCon_ok : PConOk Try.prog Rd.no uCon := by
  intro f h hf
  unfold uCon at hf
  split at hf
  · cases hf
    refine ⟨(find_plain ⟨#[]⟩ [] (Nat.zero_le _)).1, fun vs e he => ?_⟩
    simp only at he
    split at he
    · split at he
      · rename_i l' hl
        obtain ⟨h1, h2⟩ := R3.need_some he
        cases h2
        rw [asU_eq hl]
        exact (find_plain _ _ (of_decide_eq_true h1)).2
      · cases he
    · cases he
  · exact ECon.ok (rd := Rd.no) r7Con_ok _ _ hf
def reAS (l : List unitT.den) (k : Nat) : St := ⟨anys 1 ++ [.ptr 0 0, .val (.slice none 0 0)] ++ anys 1 ++ [.clo (.func 73) [] [.ptr 0 0]] ++ anys 11 ++ [.dsl unitT l, .val (.int .i64 l.length), .val (.int .i64 k)] ++ anys 83, [.cells [.dsl unitT l] 38 false], []⟩
def reAN : Ex → Option (List Root × List Nat)
  | .normal => some ([.f 0], [0, 3, 5, 6, 7, 8, 9, 10, 11, 12, 13, 14, 15, 19, 20, 21, 22, 23, 24, 25, 26, 27, 28, 29, 30, 31, 32, 33, 34, 35, 36, 37, 38, 39, 40, 41, 42, 43, 44, 45, 46, 47, 48, 49, 50, 51, 52, 53, 54, 55, 56, 57, 58, 59, 60, 61, 62, 63, 64, 65, 66, 67, 68, 69, 70, 71, 72, 73, 74, 75, 76, 77, 78, 79, 80, 81, 82, 83, 84, 85, 86, 87, 88, 89, 90, 91, 92, 93, 94, 95, 96, 97, 98, 99, 100, 101])
  | .ret => some ([.f 0], [0, 1, 4, 5, 6, 7, 8, 9, 10, 11, 12, 13, 14, 15, 16, 17, 18, 19, 20, 21, 22, 23, 24, 25, 26, 27, 28, 29, 30, 31, 32, 33, 34, 35, 36, 37, 38, 39, 40, 41, 42, 43, 44, 45, 46, 47, 48, 49, 50, 51, 52, 53, 54, 55, 56, 57, 58, 59, 60, 61, 62, 63, 64, 65, 66, 67, 68, 69, 70, 71, 72, 73, 74, 75, 76, 77, 78, 79, 80, 81, 82, 83, 84, 85, 86, 87, 88, 89, 90, 91, 92, 93, 94, 95, 96, 97, 98, 99, 100, 101])
  | _ => some ([.f 0], [0, 3, 5, 6, 7, 8, 9, 10, 11, 12, 13, 14, 15, 16, 17, 18, 19, 20, 21, 22, 23, 24, 25, 26, 27, 28, 29, 30, 31, 32, 33, 34, 35, 36, 37, 38, 39, 40, 41, 42, 43, 44, 45, 46, 47, 48, 49, 50, 51, 52, 53, 54, 55, 56, 57, 58, 59, 60, 61, 62, 63, 64, 65, 66, 67, 68, 69, 70, 71, 72, 73, 74, 75, 76, 77, 78, 79, 80, 81, 82, 83, 84, 85, 86, 87, 88, 89, 90, 91, 92, 93, 94, 95, 96, 97, 98, 99, 100, 101])
def reAK : List Nat := [0, 3, 5, 6, 7, 8, 9, 10, 11, 12, 13, 14, 15, 19, 20, 21, 22, 23, 24, 25, 26, 27, 28, 29, 30, 31, 32, 33, 34, 35, 36, 37, 38, 39, 40, 41, 42, 43, 44, 45, 46, 47, 48, 49, 50, 51, 52, 53, 54, 55, 56, 57, 58, 59, 60, 61, 62, 63, 64, 65, 66, 67, 68, 69, 70, 71, 72, 73, 74, 75, 76, 77, 78, 79, 80, 81, 82, 83, 84, 85, 86, 87, 88, 89, 90, 91, 92, 93, 94, 95, 96, 97, 98, 99, 100, 101]
def reBS (l x : List unitT.den) (k : Nat) : St := ⟨anys 1 ++ [.ptr 0 0, .vec 1] ++ anys 1 ++ [.clo (.func 73) [] [.ptr 0 0]] ++ anys 25 ++ [.dsl unitT l, .val (.int .i64 l.length), .val (.int .i64 k)] ++ anys 69, [.cells [.dsl unitT l] 38 false, .vec unitT x], []⟩
def reBN : Ex → Option (List Root × List Nat)
  | .normal => some ([.f 0, .v 2 unitT], [0, 3, 5, 6, 7, 8, 9, 10, 11, 12, 13, 14, 15, 16, 17, 18, 19, 20, 21, 22, 23, 24, 25, 26, 27, 28, 29, 33, 34, 35, 36, 37, 38, 39, 40, 41, 42, 43, 44, 45, 46, 47, 48, 49, 50, 51, 52, 53, 54, 55, 56, 57, 58, 59, 60, 61, 62, 63, 64, 65, 66, 67, 68, 69, 70, 71, 72, 73, 74, 75, 76, 77, 78, 79, 80, 81, 82, 83, 84, 85, 86, 87, 88, 89, 90, 91, 92, 93, 94, 95, 96, 97, 98, 99, 100, 101])
  | .ret => some ([.f 0], [0, 1, 4, 5, 6, 7, 8, 9, 10, 11, 12, 13, 14, 15, 16, 17, 18, 19, 20, 21, 22, 23, 24, 25, 26, 27, 28, 29, 30, 31, 32, 33, 34, 35, 36, 37, 38, 39, 40, 41, 42, 43, 44, 45, 46, 47, 48, 49, 50, 51, 52, 53, 54, 55, 56, 57, 58, 59, 60, 61, 62, 63, 64, 65, 66, 67, 68, 69, 70, 71, 72, 73, 74, 75, 76, 77, 78, 79, 80, 81, 82, 83, 84, 85, 86, 87, 88, 89, 90, 91, 92, 93, 94, 95, 96, 97, 98, 99, 100, 101])
  | _ => some ([.f 0, .v 2 unitT], [0, 1, 3, 4, 5, 6, 7, 8, 9, 10, 11, 12, 13, 14, 15, 16, 17, 18, 19, 20, 21, 22, 23, 24, 25, 26, 27, 28, 29, 30, 31, 32, 33, 34, 35, 36, 37, 38, 39, 40, 41, 42, 43, 44, 45, 46, 47, 48, 49, 50, 51, 52, 53, 54, 55, 56, 57, 58, 59, 60, 61, 62, 63, 64, 65, 66, 67, 68, 69, 70, 71, 72, 73, 74, 75, 76, 77, 78, 79, 80, 81, 82, 83, 84, 85, 86, 87, 88, 89, 90, 91, 92, 93, 94, 95, 96, 97, 98, 99, 100, 101])
def reBK : List Nat := [0, 3, 5, 6, 7, 8, 9, 10, 11, 12, 13, 14, 15, 16, 17, 18, 19, 20, 21, 22, 23, 24, 25, 26, 27, 28, 29, 33, 34, 35, 36, 37, 38, 39, 40, 41, 42, 43, 44, 45, 46, 47, 48, 49, 50, 51, 52, 53, 54, 55, 56, 57, 58, 59, 60, 61, 62, 63, 64, 65, 66, 67, 68, 69, 70, 71, 72, 73, 74, 75, 76, 77, 78, 79, 80, 81, 82, 83, 84, 85, 86, 87, 88, 89, 90, 91, 92, 93, 94, 95, 96, 97, 98, 99, 100, 101]

end Go.Proofs.Ytmcejefeloljiaa

